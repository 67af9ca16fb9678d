/- Part 3 of 7 of what the proofs of these laws stand on. -/
import Derived.Test.YtekkngkphejfcaaGreatDoorPfB
import Derived.LoopIn
set_option linter.all false
namespace Go.Proofs.YtekkngkphejfcaaGreatDoor
abbrev zFP:=@Bool.false_or
end Go.Proofs.YtekkngkphejfcaaGreatDoor
namespace Go.Proofs.YtekkngkphejfcaaGreatDoor
open Go.RowKit
structure HX (F:Fence) (P:Program):Prop where
 f:EI F P
 m:P.follows .mixedOrders=true
structure HS (c:List (DV×DH×Bool)) (o:List (Nat×DV)) (z:List (Nat×Fz)) (v:List Prop):Prop where
 all:Bo v
section
variable {P:Program} {Γ:A6} {cs:List (DV×DH×Bool)} {os:List (Nat×DV)} {zs:List (Nat×Fz)} {vs:List Prop}
theorem H0:HS [] [] [] []:=⟨trivial⟩
theorem HS.add (q:HS cs os zs vs) {c':List (DV×DH×Bool)} {o':List (Nat×DV)} {z':List (Nat×Fz)} {p:Prop} (h:p):HS c' o' z' (vs++[p]):=⟨DM.2 ⟨q.all,h,trivial⟩⟩
theorem HS.o (q:HS cs os zs vs) (t:Nat) {d d':DV} (x:AS d d'):HS cs (os++[(t,d')]) zs (vs++[AS d d']):=q.add x
theorem HS.b (q:HS cs os zs vs) (t:Nat) {a b:Bool} (x:a=b):HS cs (os++[(t,.bool b)]) zs (vs++[AS (.bool a) (.bool b)]):=q.add (AS.bool x)
theorem HS.w (q:HS cs os zs vs) (t:Nat) {x:Int} (h:AG x):HS cs (os++[(t,.int .i64 x)]) zs (vs++[AS (.int .i64 (IntKind.i64.wrap x)) (.int .i64 x)]):=q.add (qP h)
theorem HS.g (q:HS cs os zs vs) {p:Prop} (x:p):HS cs os zs (vs++[p]):=q.add x
theorem HS.t (q:HS cs os zs vs):HS cs os zs (vs++[True]):=q.add trivial
theorem HS.c (q:HS cs os zs vs) {f:Nat} {ds:List DV} {h:DH} {d:DV} {h':DH} {e:Bool} (x:ES P Γ f ds h d h' e):HS (cs++[(d,h',e)]) os zs (vs++[ES P Γ f ds h d h' e]):=q.add x
theorem HS.a (q:HS cs os zs vs) (t k m:Nat) {n n':Nat} {f f':Nat -> Nat -> DV} (x:n=n'/\ ∀ i j,i<n -> j<m -> AS (f i j) (f' i j)):HS cs os (zs++[(t,.arr k n' f')]) (vs++[n=n'/\ ∀ i j,i<n -> j<m -> AS (f i j) (f' i j)]):=q.add x
theorem HS.z (q:HS cs os zs vs) (t k:Nat):HS cs os (zs++[(t,.frz k)]) vs:=⟨q.all⟩
theorem HS.u (q:HS cs os zs vs) (t k:Nat):HS cs os (zs++[(t,.unf k)]) vs:=⟨q.all⟩
end
theorem ES.emC {P:Program} {Γ:A6} {f:Nat} {ds:List DV} {h:DH} {d:DV} {h':DH} {ext:Bool} (Er:ES P Γ f ds h d h' ext) (σ:List Nat) (H:DH) (hb:MG σ H.length h.length h'.length=true) (hh:(σ.map fun k=>H.getD k none)=h.map (Cq σ H.length)):ES P Γ f (ds.map (up σ H.length)) H (up σ H.length d) (Cw H σ h') ext:=
 Er.embedB σ H hb hh rfl
def frzL:List Nat -> St -> Option (St×List Prop)
 | [],S=>some (S,[])
 | k::ks,S=>match Tp k S with
  | some (S',vs)=>match frzL ks S' with
   | some (Cn,Bz)=>some (Cn,vs++Bz)
   | none=>none
  | none=>none
theorem BR.frzL {L:Nat}: ∀ (ks:List Nat) {S S':St} {vs:List Prop},Proofs.YtekkngkphejfcaaGreatDoor.frzL ks S=some (S',vs) -> Bo vs -> BR L S S'
 | [],S,S',vs,h,_=>by cases h;exact BR.refl L S
 | k::ks,S,S',vs,h,hv=>by
  simp only [Proofs.YtekkngkphejfcaaGreatDoor.frzL] at h;split at h
  ·rename_i S1 C1 h1;split at h
   ·rename_i S2 FW h2;cases h;obtain ⟨Bn,CT⟩:=DM.1 hv;exact (BR.frzE k S1 C1 h1 Bn).trans (BR.frzL ks h2 CT)
   ·cases h
  ·cases h
abbrev Ya:=List Prop×List Prop×List (DV×DH×Bool)×List (Nat×DV)×Bool
def O6 (σ:List Nat) (L:Nat) (w:List Prop) (r:KO×St×List Prop×B8):Ya:=(r.2.2.1,w,r.2.2.2.calls,r.2.2.2.co,KE σ L r.2.1.h.length)
def Lk (live σ:List Nat) (L:Nat) (ks:List Nat) (r:KO×St×List Prop×B8):Option (KO×List DV×DH×Ya):=match frzL ks (comp live σ r.2.1) with
 | some (S,w)=>some (r.1,S.fr,S.h,O6 σ L w r)
 | none=>none
def mD:KO -> Option Exit
 | .ret=>some .ret
 | .at []=>some .normal
 | .at (.code (.exit i)::k)=>if (Ie i k).isNone then some (.exit i) else none
 | _=>none
def Jf (P:Program) (live σ:List Nat) (L:Nat) (ks:List Nat) (fn:Func) (d:DV) (l2:Nat) (r:KO×St×List Prop×B8):Option (Bool×List DV×DH×Ya):=match frzL ks (comp live σ r.2.1) with
 | some (S,w)=>match Oz P S fn.results.toList with
  | some rs=>some ((match r.1 with | .ret=>true | .at []=>true | _=>false)&&(decide (S.h.length<=l2)||(S.h.all ac&&HF d&&decide (L<=S.h.length))),rs,(if S.h.length<=l2 then S.h else (Fp (List.range L) S).h),O6 σ L w r)
  | none=>none
 | none=>none
def aR (σ:List Nat) (L:Nat) (r:KO×St×List Prop×B8):Option Exit×DH×Ya:=(mD r.1,(comp [] σ r.2.1).h,O6 σ L [] r)
section
variable {P:Program} {Γ:A6} {F:Fence} {B:Option Nat} {L:Nat} {Y N:Be P Γ L} {Q:QY P Γ L} {k k':List KI} {S:St} {fr:List DV} {h' h2:DH} {c:List (DV×DH×Bool)} {o:List (Nat×DV)} {z:List (Nat×Fz)} {v w:List Prop}
theorem xC {live σ ks:List Nat} {r:KO×St×List Prop×B8} {r1:KO} (h:Lk live σ L ks r=some (r1,fr,h',v,w,[],[],true)) (hw:Bo w):r.1=r1/\ r.2.2.1=v/\ BR L r.2.1 ⟨fr,h'⟩:=by
 unfold Lk at h;split at h
 ·rename_i S1 w1 hf;simp only [O6,zFC,zFg] at h;obtain ⟨rfl,rfl,rfl,rfl,rfl,_,_,hs⟩:=h;exact ⟨rfl,rfl,(BR.comp live σ r.2.1 hs).trans (BR.frzL ks hf hw)⟩
 ·cases h
theorem BW.gS (hX:HX F P) (Ay:BJ) (n:Nat) (live σ:List Nat) (tg:List (List (Nat×Nat)×St)) (hl:HS c o z v) (ks:List Nat) (hz:HS [] [] [] w) (k':List KI) (fr:List DV) (h':DH)
 (h:(B3 P Γ Ay n k S ⟨c,o,z,tg⟩).bind (Lk live σ L ks)=some (.at k',fr,h',v,w,[],[],true)) (hc:Ij k'=true) (hk:A3 P Γ F B L Y Q k' ⟨fr,h'⟩):A3 P Γ F B L Y Q k S:=by
 cases hr:B3 P Γ Ay n k S ⟨c,o,z,tg⟩ with
 | none=>rw [hr] at h;cases h
 | some r=>
  obtain ⟨r1,S1,v1,o1⟩:=r;rw [hr] at h;obtain ⟨e1,e2,hs⟩:=xC (r:=(r1,S1,v1,o1)) h hz.all;have e1:r1= .at k':=e1;have e2:v1=v:=e2;subst e1 e2;exact FO hX.f hX.m n k S _ _ _ _ _ hr hl.all (BW.le hs hc hk)
theorem BW.el (hX:HX F P) {fn:Func} {d:DV} (Ay:BJ) (n:Nat) (live σ:List Nat) (tg:List (List (Nat×Nat)×St)) (hl:HS c o z v) (ks:List Nat) (hz:HS [] [] [] w) (rs:List DV) (le:AS (JM rs) d)
 (h:(B3 P Γ Ay n k S ⟨c,o,z,tg⟩).bind (Jf P live σ L ks fn d h2.length)=some (true,rs,h2,v,w,[],[],true)):BW P Γ F B L N (F6 P fn L d h2) k S:=by
 cases hr:B3 P Γ Ay n k S ⟨c,o,z,tg⟩ with
 | none=>rw [hr] at h;cases h
 | some r=>
  obtain ⟨r1,S1,v1,o1⟩:=r;rw [hr] at h;have h:Jf P live σ L ks fn d h2.length (r1,S1,v1,o1)=some (true,rs,h2,v,w,[],[],true):=h;unfold Jf at h;split at h
  ·rename_i S2 w1 hf;split at h
   ·rename_i t8 XB;simp only [O6,zFC,zFg,zBE] at h;obtain ⟨⟨zz,hq⟩,rfl,hh,rfl,rfl,_,_,hs⟩:=h;have hS:BR L S1 S2:=(BR.comp live σ S1 hs).trans (BR.frzL ks hf hz.all)
    have fin: ∀ e,(e= .normal∨e= .ret) -> F6 P fn L d h2 e S1:=fun e he=>by
     refine F6.le hS ⟨he,S2,BR.refl _ _,t8,XB,?_⟩
     by_cases Ak:S2.h.length<=h2.length
     ·rw [zAE Ak] at hh;exact .inl ⟨le,hh⟩
     ·rw [zBP Ak] at hh;simp only [Ak,decide_false,zFP,zBE,zCK] at hq;exact .inr ⟨lJ hq.1.1,le,PO hq.1.2,hq.2,hh⟩
    refine FO hX.f hX.m n k S _ _ _ _ _ hr hl.all ?_;rcases r1 with (_ | ⟨_,_⟩) | _
    ·exact ⟨rfl,fin _ (.inl rfl)⟩
    ·cases zz
    ·exact ⟨rfl,fin _ (.inr rfl)⟩
   ·cases h
  ·cases h
theorem BW.e (hX:HX F P) {fn:Func} {d:DV} (Ay:BJ) (n:Nat) (live σ:List Nat) (tg:List (List (Nat×Nat)×St)) (hl:HS c o z v) (ks:List Nat) (hz:HS [] [] [] w)
 (h:(B3 P Γ Ay n k S ⟨c,o,z,tg⟩).bind (fun r=>(Jf P live σ L ks fn d h2.length r).map fun q=>(q.1,JM q.2.1,q.2.2))=some (true,d,h2,v,w,[],[],true)):BW P Γ F B L N (F6 P fn L d h2) k S:=by
 cases hr:B3 P Γ Ay n k S ⟨c,o,z,tg⟩ with
 | none=>rw [hr] at h;cases h
 | some r=>
  rw [hr] at h;have h:(Jf P live σ L ks fn d h2.length r).map (fun q=>(q.1,JM q.2.1,q.2.2))=some (true,d,h2,v,w,[],[],true):=h;cases hq:Jf P live σ L ks fn d h2.length r with
  | none=>rw [hq] at h;cases h
  | some q=>
   obtain ⟨q1,rs,q3⟩:=q;rw [hq] at h;simp only [zCL,zFC,zFg] at h;obtain ⟨rfl,hd,rfl⟩:=h;exact BW.el hX Ay n live σ tg hl ks hz rs (AS.of_eq hd) (by rw [hr];exact hq)
theorem BW.r (hX:HX F P) {ex:List Exit} {i:Nat} {e:Exit} (Ay:BJ) (n:Nat) (σ:List Nat) (tg:List (List (Nat×Nat)×St)) (hl:HS c o z v) (he:(Exit.normal::ex)[i]? =some e)
 (h:(B3 P Γ Ay n k S ⟨c,o,z,tg⟩).map (aR σ L)=some (some e,h2,v,[],[],[],true)):BW P Γ F B L N (DX L ex i h2) k S:=by
 cases hr:B3 P Γ Ay n k S ⟨c,o,z,tg⟩ with
 | none=>rw [hr] at h;cases h
 | some r=>
  obtain ⟨r1,S1,v1,o1⟩:=r;rw [hr] at h;simp only [zCL,aR,O6,zFC,zFg] at h;obtain ⟨hk,hh,rfl,_,_,_,hs⟩:=h;have fin:stay N (DX L ex i h2) e S1 N:=⟨rfl,he,_,BR.comp [] σ S1 hs,hh⟩;refine FO hX.f hX.m n k S _ _ _ _ _ hr hl.all ?_;unfold mD at hk;split at hk
  ·cases hk;exact fin
  ·cases hk;exact fin
  ·rename_i i' k';split at hk
   ·rename_i hp;cases hk;exact Tr.exit (QL fin k' (Option.isNone_iff_eq_none.1 hp))
   ·cases hk
  ·cases hk
theorem GV.g (hX:HX F P) {Q:Exit -> St -> Prop} {assign body:Code} (Ay:BJ) (n:Nat) (live σ:List Nat) (hl:HS c o z v) (fr:List DV) (h':DH)
 (h:(B3 P Γ Ay n [.code assign] S ⟨c,o,z,[]⟩).map (Sk live σ L)=some (.at [],fr,h',v,[],[],true)) (hk: ∀ N2:Be P Γ L,BW P Γ F B L N2 Q [.code body] ⟨fr,h'⟩):GV P Γ F B L N Q assign body S:=
 GV.go hX.f hX.m Ay n _ live σ fr h' v h hl.all hk
end
section
variable {P:Program} {Γ:A6} {L:Nat} {k:List KI} {S:St} {c:List (DV×DH×Bool)} {o:List (Nat×DV)} {z:List (Nat×Fz)} {v:List Prop}
theorem TrI.e {C:EH P Γ} {Y:Be P Γ L} (hX:HX Fence.wide P) (Ay:BJ) (n:Nat) (hl:HS c o z v)
 (h:(B3 P Γ Ay n k S ⟨c,o,z,[]⟩).map (fun r=>((match r.1 with | .ret=>true | .at []=>true | _=>false),r.2.2.1))=some (true,v)) (hY:Y=C.Y L C.encs.length∨Y=C.X L):A3 P Γ Fence.wide none L Y (C.Q L) k S:=by
 cases hr:B3 P Γ Ay n k S ⟨c,o,z,[]⟩ with
 | none=>rw [hr] at h;cases h
 | some r=>
  obtain ⟨r1,S1,C1,o1⟩:=r;rw [hr] at h;simp only [zCL,zFC,zFg] at h;obtain ⟨h1,rfl⟩:=h;refine FO hX.f hX.m n k S _ _ _ _ _ hr hl.all ?_;rcases r1 with (_ | ⟨_,_⟩) | _
  ·exact ⟨.inl rfl,hY⟩
  ·cases h1
  ·exact ⟨.inr rfl,hY⟩
theorem A3.y {C:EH P Γ} {i:Nat} {Q:QY P Γ L} {K:List KI} {ops:Array Oper} (hX:HX Fence.wide P) (p:Nat) (live σ:List Nat) (hl:HS c o z v) {x:Array Value} (QH:List DV) (hT:DH) (QJ:List DV) (hE:DH)
 (hK:Rn K=some (ops,EL K)) (Av:EV ops=true) (h:(Ql P Γ ops p S ⟨c,o,z,[]⟩).map (aQ live σ L)=some (x.toList,C.l,QH,hT,QJ,hE,v,true)) (hx:C.encs[i]? =some x) (hc:Ij (EL K)=true) (cX:A3 P Γ Fence.wide none L (C.Y L (i+1)) Q (EL K) ⟨QH,hT⟩) (cY:A3 P Γ Fence.wide none L (C.X L) Q (EL K) ⟨QJ,hE⟩):A3 P Γ Fence.wide none L (C.Y L i) Q K S:=
 A3.yieldAt hX.f hK Av p _ live σ QH hT QJ hE v h hl.all hx hc cX cY
end
section
variable {P:Program} {Γ:A6} {F:Fence} {B L:Nat} {Y:Be P Γ L} {Q:QY P Γ L} {fr:List DV} {h:DH} {K:List KI} {a b:Code} {α σ:Type} {l:List α} {H:σ -> DH} {FR:α -> List DV}
theorem BW.rg (I0:F=Fence.wide∨∃ l,F=Fence.wide.inRound l) (ex:List Exit) (Jv:(ex.all fun e=>(Kx e).isSome)=true) (kk t:Nat) (ps:Array Tmp) (enc:α -> Array Value) (L':Nat) {f:α -> σ -> Option (σ×Nat)} {s0:σ} {rE:σ×Nat} (hf:Es f l s0=some rE)
 (Dh: ∀ (l B:Nat) (N:Be P Γ L') (x:α) (s:σ) (r:σ×Nat),f x s=some r -> GV P Γ (Fence.wide.inRound l) (some B) L' N (DX L' ex r.2 (H r.1)) a b ⟨FR x,H s⟩)
 (hK:Mx K=some (.tmp t,ps,a,b,EL K)) (hg:Ao fr (.tmp t)= .it kk) (hk:h[kk]? =some (some (.iter (l.map enc)))) (D6: ∀ x,(enc x).size=ps.size) (hL:Nat.ble L L'=true) (GT:fr.all (Ge L')=true) (h0:h.set kk none=H s0) (EY:(fun x=>KG fr ps.toList (enc x).toList)=FR)
 (EZ: ∀ e,(Exit.normal::ex)[rE.2]? =some e -> Dm P Γ F (some B) L Q (EL K) e ⟨fr,H rE.1⟩ Y):A3 P Γ F (some B) L Y Q K ⟨fr,h⟩:=
 BW.rangeAt I0 ex Jv (.tmp t) ps a b (EL K) enc l H FR f hf hK hg hk D6 L' hL GT h0 EY Dh EZ
theorem BW.rg0 (I0:F=Fence.wide∨∃ l,F=Fence.wide.inRound l) (kk t:Nat) (ps:Array Tmp) (enc:α -> Array Value) (L':Nat) {f:α -> σ -> Option σ} {s0 sE:σ} (hf:CC f l s0=some sE)
 (Dh: ∀ (l B:Nat) (N:Be P Γ L') (x:α) (s r:σ),f x s=some r -> GV P Γ (Fence.wide.inRound l) (some B) L' N (DX L' [] 0 (H r)) a b ⟨FR x,H s⟩)
 (hK:Mx K=some (.tmp t,ps,a,b,EL K)) (hg:Ao fr (.tmp t)= .it kk) (hk:h[kk]? =some (some (.iter (l.map enc)))) (D6: ∀ x,(enc x).size=ps.size) (hL:Nat.ble L L'=true) (GT:fr.all (Ge L')=true) (h0:h.set kk none=H s0) (EY:(fun x=>KG fr ps.toList (enc x).toList)=FR)
 (EZ:A3 P Γ F (some B) L Y Q (EL K) ⟨fr,H sE⟩):A3 P Γ F (some B) L Y Q K ⟨fr,h⟩:=
 BW.rangeAt0 I0 (.tmp t) ps a b (EL K) enc l H FR f hf hK hg hk D6 L' hL GT h0 EY Dh EZ
end
end Go.Proofs.YtekkngkphejfcaaGreatDoor
namespace Go.Proofs.YtekkngkphejfcaaGreatDoor
abbrev zBC:=@decide_eq_true
abbrev zCG:=@List.mem_cons_of_mem
abbrev zGi:=@List.mem_of_mem_erase
end Go.Proofs.YtekkngkphejfcaaGreatDoor
namespace Go.Proofs.YtekkngkphejfcaaGreatDoor
open Go.RowKit
abbrev LK:=Nat×Array MapEntry×Nat
theorem yC {i:Nat}:We none i:=fun _ h=>by cases h
theorem yB {i j:Nat} {g:LK} (h:i≠j):We (some (i,g)) j:=fun y e=>by cases e;exact h
def Hv {R:Type} [DecidableEq R] (rem:KS) (a:Option R) (f:List Int -> Option R):Option R:=match rem with
 | []=>a
 | x::r=>match f x with
  | none=>none
  | some v=>if r.all (fun y=>decide (f y=some v)) then some v else none
theorem WS {R:Type} [DecidableEq R] {rem:KS} {a:Option R} {f:List Int -> Option R} {r:R} (h:Hv rem a f=some r):(rem= [] -> a=some r)/\ ∀ y∈rem,f y=some r:=by
 cases rem with
 | nil=>exact ⟨fun _=>h,fun y hy=>absurd hy zFe⟩
 | cons x l=>
  refine ⟨fun e=>absurd e (List.cons_ne_nil x l),?_⟩;unfold Hv at h;simp only at h;cases hx:f x with
  | none=>rw [hx] at h;cases h
  | some v=>
   rw [hx] at h;simp only at h;split at h
   ·rename_i hc;cases h;intro y hy;rcases zCB.1 hy with rfl | hy
    ·exact hx
    ·exact zFY (zBT.1 hc y hy)
   ·cases h
theorem ko {R:Type} [DecidableEq R] {a:Option R} {f:List Int -> Option R}:Hv [] a f=a:=rfl
theorem xN {R:Type} [DecidableEq R] {rem:KS} {a:Option R} {f:List Int -> Option R} {r:R} (hn:rem≠[]) (h: ∀ y∈rem,f y=some r):Hv rem a f=some r:=by
 cases rem with
 | nil=>exact absurd rfl hn
 | cons x l=>
  unfold Hv;simp only [h x (by simp)];rw [zAE];exact zBT.2 fun y hy=>zBC (h y (by simp [hy]))
theorem tf {P:Program} {w:World} {r bm IS c0 Ad:Nat} {seen:Array Nat} {es:Array MapEntry} (hr:w.heap[r]? =some (.mapIter (some bm) IS seen c0)) (hb:w.heap[bm]? =some (.map es Ad)) (Iq: ∀ x∈es.toList,x.born<IS) (zt:IS<=c0) (ty:TypeId):
 ((leftOf es seen).size=0/\ (Instr.next (.pointer (some ⟨r,0,none⟩)) false ty).run P w= .ok (.tuple #[.bool false]) w)∨
 ∃ e∈(leftOf es seen).toList,∃ w1:World,(w1=w∨w1=w.drew)/\ (Instr.next (.pointer (some ⟨r,0,none⟩)) false ty).run P w= .ok (.tuple #[.bool true,e.key,e.val]) { w1 with heap:=w1.heap.setIfInBounds r (.mapIter (some bm) IS (seen.push e.born) Ad) }:=by
 simp only [Instr.next,getObj,zBx,Sem.run,hr,hb,Result.andThen,next_test_false seen es IS c0 Iq zt,zCQ,zFo];unfold leftOf;have CA: ∀ x∈(Array.filter (fun e=>!seen.contains e.born) es).toList,x.born<IS:=fun x hx=>Iq x (by simp at hx ⊢;exact hx.1)
 generalize Array.filter (fun e=>!seen.contains e.born) es=L at CA ⊢
 have e1:L.filter (fun x=>decide (x.born<IS))=L:=Array.filter_eq_self.2 (fun x hx=>by simpa using CA x (by simpa using hx))
 have e2:L.filter (fun x=>decide (x.born>=IS))= #[]:=by
  rw [Array.filter_eq_empty_iff];intro x hx;have:=CA x (by simpa using hx);simp;omega
 simp only [e1,e2,Array.append_empty]
 by_cases h0:L.size=0
 ·left;have:L= #[]:=zF2 h0;subst this;refine ⟨rfl,?_⟩;simp [choose,Sem.run,Question.forced]
 ·right;have AY:L.isEmpty=false:=by simp [Array.isEmpty,h0]
  simp only [AY,zCQ,zFo,Array.empty_append,Array.size_map]
  have XT: ∃ (j:Nat) (w1:World),j<L.size/\ (w1=w∨w1=w.drew)/\ (choose (Question.mapNext L.size)).run P w= .ok j w1:=by
   by_cases hf:L.size<=1
   ·exact ⟨0,w,by omega,.inl rfl,by simp [choose,Sem.run,Question.forced,hf]⟩
   ·exact ⟨_,w.drew,zGx _ (by omega),.inr rfl,by
     simp only [choose,Sem.run,Question.forced,zCK,hf,zFo,Question.cut];rfl⟩
  obtain ⟨j,w1,hj,Kt,Pn⟩:=XT;have Pq:w1.heap[r]? =some (.mapIter (some bm) IS seen c0):=by rcases Kt with rfl | rfl <;> exact hr
  refine ⟨L[j],by simp,w1,Kt,?_⟩;simp only [Pn,Array.getElem?_map,zE9 hj,zCL,zBx,setObj,Sem.run,Pq,Result.andThen];rfl
section
variable {P:Program} {Γ:A6} {N:Nat -> Prop} {S:St} {ρ:List AN} {a:Act} {w:World} {F:Fence} {B:Option Nat} {L:Nat} {Y:Be P Γ L} {Q:QY P Γ L}
theorem An.setMo (R:An P Γ N S ρ a w) {k:Nat} {x x':MX} {p:AN} (hk:S.h[k]? =some (some (.mo x))) (hp:ρ[k]? =some p) (hO:MY w p x') (hc: ∀ b,p.foot b -> EG w b):
 An P Γ N ⟨S.fr,S.h.set k (some (.mo x'))⟩ ρ a w/\ BL S.h ρ w (S.h.set k (some (.mo x'))) ρ w:=
 ⟨⟨R.hr.write hk hp (AV.refl _ _) hc hO,R.fr.out (Ba.write trivial hk hp (AV.refl p.foot w))⟩,BL.write hk hp (AV.refl _ _)⟩
theorem FC.relock {p:AN} {n:Nat} {ls:List (Option KS)} {vs:Array Value} (hS:FC w p n ls none vs) {i:Nat} (hi:(ls.getD i none).isSome=true): ∃ g:LK,FC w p n ls (some (i,g)) vs:=by
 obtain ⟨mb,g1,g2,g3,es,Ad,g4,_⟩:=hS.has i _ (QF hi);refine ⟨(mb,es,Ad),{ hS with has:=fun j l hl=>?_ }⟩
 by_cases e:j=i
 ·subst e;have:l=(ls.getD j none).getD []:=by have:=QF hi;rw [hl] at this;exact zBK (zBK this)
  subst this;exact ⟨mb,g1,g2,g3,es,Ad,g4,fun x hx _=>by cases hx;rfl⟩
 ·obtain ⟨b,k1,k2,k3,ID,c1,k4,_⟩:=hS.has j l hl;exact ⟨b,k1,k2,k3,ID,c1,k4,fun x hx hj=>by cases hx;exact absurd hj.symm e⟩
theorem FC.unlock {p:AN} {n:Nat} {ls:List (Option KS)} {lk:Option (Nat×LK)} {vs:Array Value} (hS:FC w p n ls lk vs):FC w p n ls none vs:=
 { hS with has:=fun j l hl=>let ⟨b,k1,k2,k3,ID,c1,k4,_⟩:=hS.has j l hl;⟨b,k1,k2,k3,ID,c1,k4,fun x hx=>by cases hx⟩ }
theorem Tr.lock {c:Code} {j i n:Nat} {ls:List (Option KS)} (hk:S.h[j]? =some (some (.mo (.sets n ls none)))) (hi:(ls.getD i none).isSome=true) (H: ∀ g:LK,Tr P Γ F B L Y c ⟨S.fr,S.h.set j (some (.mo (.sets n ls (some (i,g)))))⟩ Q):Tr P Γ F B L Y c S Q:=fun N ρ a w R y m b=>by
 obtain ⟨p,hp,vs,hS⟩:=R.hr.obj j _ hk;obtain ⟨g,XW⟩:=hS.relock hi;obtain ⟨R',st⟩:=R.setMo hk hp (x':=.sets n ls (some (i,g))) ⟨vs,XW⟩ fun b hb=>hS.lies hb
 exact H g N ρ a w R' (Y.st y R.hr R'.hr st (Ef.refl _ _)) m b
def mK:List KI -> Bool
 | .code _::_=>true
 | _=>false
theorem BW.lock {K:List KI} {fr:List DV} {h:DH} (j i n:Nat) {ls:List (Option KS)} (hk:h[j]? =some (some (.mo (.sets n ls none)))) (hi:(ls.getD i none).isSome=true) (hK:mK K=true) (h':LK -> DH) (he:h'=fun g=>h.set j (some (.mo (.sets n ls (some (i,g)))))) (H: ∀ g:LK,A3 P Γ F B L Y Q K ⟨fr,h' g⟩):A3 P Γ F B L Y Q K ⟨fr,h⟩:=by
 subst he;unfold mK at hK;split at hK
 ·exact Tr.lock (S:=⟨fr,h⟩) hk hi H
 ·cases hK
theorem xb (R:An P Γ N S ρ a w) {m j n n' i:Nat} {ls:List (Option KS)} {g:LK} {rem:KS} {Et:Option (List Int)} (hm:S.h[m]? =some (some (.mo (.mit n g.1 g.2.1 g.2.2 rem Et)))) (hj:S.h[j]? =some (some (.mo (.sets n' ls (some (i,g)))))) (hi:(ls.getD i none).isSome=true) {v:Value} (hv:AQ (MS N S.h ρ) w (.it m) ρ v) (ty:TypeId):
 (rem= []/\ (Instr.next v false ty).run P w= .ok (.tuple #[.bool false]) w)∨∃ y∈rem,∃ (k u:Value) (w':World) (p:AN),(Instr.next v false ty).run P w= .ok (.tuple #[.bool true,k,u]) w'/\ ρ[m]? =some p/\ AV p.foot w w'/\ MY w' p (.mit n g.1 g.2.1 g.2.2 (rem.erase y) (some y))/\ ∀ b,p.foot b -> EG w' b:=by
 obtain ⟨p,hp,rfl⟩:=hv;obtain ⟨p',BE,h0,h1,h2,seen,h3,h4,h5⟩:=R.hr.obj m _ hm;have:p'=p:=zBK (BE.symm.trans hp);subst this;obtain ⟨q,hq,vs,hS⟩:=R.hr.obj j _ hj;obtain ⟨b,k1,k2,k3,ID,YI,k4,k5⟩:=hS.has i _ (QF hi);have k5:=k5 _ rfl rfl;obtain ⟨mb,es,Ad⟩:=g
 have e3:mb=b/\ es=ID/\ Ad=YI:=by
  have:(mb,es,Ad)=(b,ID,YI):=k5;simpa using this
 obtain ⟨rfl,rfl,rfl⟩:=e3;simp only at h3 h4 h5;rw [h1];have Iq: ∀ x∈es.toList,x.born<Ad:=k4.born;rcases tf (P:=P) h3 k4.blk Iq (zBa _) ty with ⟨e1,e2⟩ | ⟨e,he,w1,TJ,e2⟩
 ·refine .inl ⟨?_,e2⟩;have:(leftOf es seen)= #[]:=zF2 e1;rw [this] at h4;have:=h4.length_eq;simp at this;exact zE5 this.symm
 ·have hek:e.key∈rem.map BH:=h4.mem_iff.1 (zFA.2 ⟨e,he,rfl⟩);obtain ⟨y,hy,mW⟩:=zFA.1 hek;have hes:e∈es.toList:=by simp [leftOf] at he ⊢;exact he.1
  have zy:p'.blk<w.heap.size:=(zBG.1 h3).1;have zZ:w1.heap=w.heap:=by rcases TJ with rfl | rfl <;> rfl
  have hU:AV p'.foot w { w1 with heap:=w1.heap.setIfInBounds p'.blk (.mapIter (some mb) Ad (seen.push e.born) Ad) }:=by
   rw [h2]
   have u1:AV (fun k=>k=p'.blk) w w1:=by
    rcases TJ with rfl | rfl
    ·exact AV.refl _ _
    ·exact AV.ofExt (A4.toDrew w)
   exact u1.trans (Qu _)
  have H6:({ w1 with heap:=w1.heap.setIfInBounds p'.blk (.mapIter (some mb) Ad (seen.push e.born) Ad) }:World).heap[p'.blk]? =some (.mapIter (some mb) Ad (seen.push e.born) Ad):=by
   show (w1.heap.setIfInBounds _ _)[_]? =_
   simp [zZ,zy]
  refine .inr ⟨y,hy,e.key,e.val,_,p',e2,hp,hU,⟨fun x hx=>?_,h1,h2,seen.push e.born,H6,?_,fun x hx=>?_⟩,fun b hb=>?_⟩
  ·rcases hx with hx | hx
   ·exact h0 x (.inl (zGi hx))
   ·have ex:y=x:=zBK hx;subst ex;exact h0 y (.inl hy)
  ·have hl:leftOf es (seen.push e.born)=(leftOf es seen).filter fun x=>x.born != e.born:=by
    unfold leftOf;rw [Array.filter_filter]
    congr 1
    funext x
    simp only [Array.contains_push,Bool.not_or];rw [Bool.and_comm];simp [bne,Bool.beq_comm]
   have Av:((leftOf es seen).toList.map (·.born)).Nodup:=by
    have:((leftOf es seen).toList.map (·.born)).Sublist (es.toList.map (·.born)):=by
     unfold leftOf;rw [Array.toList_filter];exact List.filter_sublist.map _
    exact this.nodup k4.stamps
   have zBl: ∀ (l:List MapEntry),(l.map (·.born)).Nodup -> e∈l -> (l.map (·.key)).Perm (e.key::((l.filter fun x=>x.born != e.born).map (·.key))):=by
    intro l
    induction l with
    | nil=>intro _ h;cases h
    | cons x l ih=>
     intro hn hx;rw [zFa,zGU] at hn
     by_cases mY:x=e
     ·subst mY
      have:(l.filter fun y=>y.born != x.born)=l:=List.filter_eq_self.2 fun y hy=>by
       simp only [zFX,ne_eq];exact fun hc=>hn.1 (by rw [←hc];exact zFA.2 ⟨y,hy,rfl⟩)
      simp [this]
     ·have Tc:e∈l:=(zCB.1 hx).resolve_left fun h=>mY h.symm
      have AY:(x.born != e.born)=true:=by
       simp only [zFX,ne_eq];exact fun hc=>hn.1 (by rw [hc];exact zFA.2 ⟨e,Tc,rfl⟩)
      rw [List.filter_cons,zAE AY,zFa,zFa];exact ((ih hn.2 Tc).cons x.key).trans (List.Perm.swap e.key x.key _)
   have P1:=zBl _ Av he;rw [hl,Array.toList_filter];have P2:(rem.map BH).Perm (BH y::(rem.erase y).map BH):=(List.perm_cons_erase hy).map BH;have P3:=P1.symm.trans (h4.trans P2);rw [←mW] at P3;exact List.Perm.cons_inv P3
  ·have ex:y=x:=zBK hx;subst ex;exact ⟨e,hes,mW.symm,by simp⟩
  ·rw [h2] at hb;exact ⟨_,rfl,(),by rw [show b=p'.blk from hb];exact H6⟩
theorem Tr.next (hF:EI F P) {id:Nat} {ops:Array Oper} (Av:EV ops=true) {o:Oper} {rest:List Oper} (XH:ops.toList=o::rest) {x:Operand} (ho:o.op= .next x false) (hw:Md ops S o=some true) {m j n n' i:Nat} {ls:List (Option KS)} {g:LK} {rem:KS} {Et:Option (List Int)} (hx:Ao S.fr x= .it m) (hm:S.h[m]? =some (some (.mo (.mit n g.1 g.2.1 g.2.2 rem Et)))) (hj:S.h[j]? =some (some (.mo (.sets n' ls (some (i,g)))))) (m8:m≠j) (hi:(ls.getD i none).isSome=true)
 (h0:rem= [] -> ∃ S' vs o0 o',E7 P Γ ops rest ⟨FG S.fr o.dst (.tup 1 (L1 [.bool false])),(S.h.set j (some (.mo (.sets n' ls none)))).set m none⟩ o0=some (S',vs,o')/\ Bo vs/\ Q .normal S' Y)
 (h1: ∀ y∈rem,∃ S' vs o0 o',E7 P Γ ops rest ⟨FG S.fr o.dst (.tup 3 (L1 [.bool true])),S.h.set m (some (.mo (.mit n g.1 g.2.1 g.2.2 (rem.erase y) (some y))))⟩ o0=some (S',vs,o')/\ Bo vs/\ Q .normal S' Y):Tr P Γ F B L Y (.region id ops false) S Q:=fun N ρ a w R y mk b=>by
 refine wpIn_region_list ?_;rw [XH];have hd: ∀ c,o.op≠.defer c:=fun c e=>by rw [ho] at e;cases e
 have Ck: ∀ o'∈rest,o'∈ops:=fun o' HL=>by
  have:o'∈ops.toList:=by rw [XH];exact zCG _ HL
  simpa using this
 have Dv: ∀ v,(a.put o.dst v).defers=a.defers:=fun v=>by cases ho:o.dst <;> simp [Act.put]
 have rx:=Bx R x;rw [hx] at rx;unfold wpListIn;rw [zAE (LF R hw)];have Jv:execOp a.eval o=(do pure (.value (←Instr.next (a.eval x) false o.type))):=by unfold execOp;rw [ho]
 have AP:m<S.h.length:=(zBN.1 hm).1;rcases xb R hm hj hi rx o.type with ⟨e1,e2⟩ | ⟨ky,hky,k,u,w',p,e2,hp,hU,hO,hC⟩
 ·obtain ⟨S',vs,o0,o',g1,g2,g3⟩:=h0 e1;obtain ⟨q,hq,qZ,hS⟩:=R.hr.obj j _ hj;obtain ⟨R1,Ok⟩:=R.setMo hj hq (x':=.sets n' ls none) ⟨qZ,hS.unlock⟩ fun b hb=>hS.lies hb
  have R2:An P Γ N ⟨S.fr,(S.h.set j (some (.mo (.sets n' ls none)))).set m none⟩ ρ a w:=⟨R1.hr.kill m,R1.fr.out (Ba.kill m)⟩
  have R3:=JP R2 o.dst (d:=.tup 1 (L1 [.bool false])) (v:=.tuple #[.bool false]) ⟨#[.bool false],rfl,rfl,fun jj TX=>by
   have:jj=0:=by omega
   subst this;exact ⟨_,rfl,rfl⟩⟩
  refine QR hF hd (G:=fun v w2=>v= .tuple #[.bool false]/\ w2=w) (Bb.value (s:=Instr.next (a.eval x) false o.type) Jv e2 ⟨rfl,rfl⟩) fun v w2 ⟨hv,TI⟩=>?_
  subst hv TI;refine L8 hF Av rest Ck R3 g1 g2 fun ρ' a' w3 R' st Ea=>?_
  exact Tr.done R y mk b g3 R' ((Ok.trans (BL.kill m)).trans st.st) (fun k p _ hp=>st.pl k p hp) (Ea.trans (Dv _))
 ·obtain ⟨S',vs,o0,o',g1,g2,g3⟩:=h1 ky hky;have Ok:=BL.write (h:=S.h) (o':=.mo (.mit n g.1 g.2.1 g.2.2 (rem.erase ky) (some ky))) hm hp hU;have R1:An P Γ N ⟨S.fr,S.h.set m (some (.mo (.mit n g.1 g.2.1 g.2.2 (rem.erase ky) (some ky))))⟩ ρ a w':=⟨R.hr.write hm hp hU hC hO,R.fr.out (Ba.write trivial hm hp hU)⟩
  have R3:=JP R1 o.dst (d:=.tup 3 (L1 [.bool true])) (v:=.tuple #[.bool true,k,u]) ⟨#[.bool true,k,u],rfl,rfl,fun jj TX=>by
   match jj,TX with
   | 0,_=>exact ⟨_,rfl,rfl⟩
   | 1,_=>exact ⟨_,rfl,trivial⟩
   | 2,_=>exact ⟨_,rfl,trivial⟩⟩
  refine QR hF hd (G:=fun v w2=>v= .tuple #[.bool true,k,u]/\ w2=w') (Bb.value (s:=Instr.next (a.eval x) false o.type) Jv e2 ⟨rfl,rfl⟩) fun v w2 ⟨hv,TI⟩=>?_
  subst hv TI;refine L8 hF Av rest Ck R3 g1 g2 fun ρ' a' w3 R' st Ea=>?_
  exact Tr.done R y mk b g3 R' (Ok.trans st.st) (fun k p _ hp=>st.pl k p hp) (Ea.trans (Dv _))
def aY (ops:Array Oper):Operand:=match ops.toList with
 | o::_=>match o.op with
  | .next x _=>x
  | _=>.tmp 0
 | []=>.tmp 0
def WU (ops:Array Oper):Option Tmp:=match ops.toList with
 | o::_=>o.dst
 | []=>none
def NR (ops:Array Oper):List Oper:=ops.toList.tail
def aZ (ops:Array Oper):Bool:=match ops.toList with
 | o::_=>match o.op with
  | .next _ false=>o.guard.isNone&&EV ops
  | _=>false
 | []=>false
theorem xS {ops:Array Oper} (h:aZ ops=true):EV ops=true/\ ∃ o,ops.toList=o::NR ops/\ o.op= .next (aY ops) false/\ o.guard=none/\ o.dst=WU ops:=by
 unfold aZ at h;unfold aY WU NR;split at h
 ·rename_i o rest XH;rw [XH];split at h
  ·rename_i x ho;simp only [zBE,Option.isNone_iff_eq_none] at h;refine ⟨h.2,o,rfl,?_,h.1,rfl⟩;simp only [ho]
  ·cases h
 ·cases h
def WP (live σ:List Nat) (L:Nat) (r:St×List Prop×B8):List DV×DH×List Prop×Bool:=((comp live σ r.1).fr,(comp live σ r.1).h,r.2.1,KE σ L r.1.h.length)
theorem A3.nx (hX:HX F P) {K:List KI} {ops:Array Oper} {fr:List DV} {h:DH} (hK:Rn K=some (ops,EL K)) (B6:aZ ops=true) (m j i n:Nat) (ls:List (Option KS)) (g:LK) (rem:KS) (Et:Option (List Int)) (live σ:List Nat) (oD:List DV) (h0:DH) (σ1:List Nat) (Xj:List Int -> List DV) (h1:List Int -> DH)
 (hx:Ao fr (aY ops)= .it m) (hm:h[m]? =some (some (.mo (.mit n g.1 g.2.1 g.2.2 rem Et)))) (hj:h[j]? =some (some (.mo (.sets n ls (some (i,g)))))) (m8:m≠j) (hi:(ls.getD i none).isSome=true) (hc:Ij (EL K)=true)
 (c0:(E7 P Γ ops (NR ops) ⟨FG fr (WU ops) (.tup 1 (L1 [.bool false])),(h.set j (some (.mo (.sets n ls none)))).set m none⟩ ⟨[],[],[],[]⟩).map (WP live σ L)=some (oD,h0,[],true))
 (c1: ∀ y,(E7 P Γ ops (NR ops) ⟨FG fr (WU ops) (.tup 3 (L1 [.bool true])),h.set m (some (.mo (.mit n g.1 g.2.1 g.2.2 (rem.erase y) (some y))))⟩ ⟨[],[],[],[]⟩).map (WP live σ1 L)=some (Xj y,h1 y,[],true))
 (k0:rem= [] -> A3 P Γ F B L Y Q (EL K) ⟨oD,h0⟩) (k1: ∀ y∈rem,A3 P Γ F B L Y Q (EL K) ⟨Xj y,h1 y⟩):A3 P Γ F B L Y Q K ⟨fr,h⟩:=by
 have go: ∀ {S:St} {live σ:List Nat} {OI:List DV} {h':DH},(E7 P Γ ops (NR ops) S ⟨[],[],[],[]⟩).map (WP live σ L)=some (OI,h',[],true) -> A3 P Γ F B L Y Q (EL K) ⟨OI,h'⟩ -> ∃ S' vs o0 o',E7 P Γ ops (NR ops) S o0=some (S',vs,o')/\ Bo vs/\ A3 P Γ F B L Y Q (EL K) S':=by
  intro S live σ OI h' OG hk;cases hr:E7 P Γ ops (NR ops) S ⟨[],[],[],[]⟩ with
  | none=>rw [hr] at OG;cases OG
  | some r=>
   obtain ⟨S1,v1,o1⟩:=r;rw [hr] at OG;simp only [zCL,WP,zFC,zFg] at OG;obtain ⟨rfl,rfl,rfl,hs⟩:=OG;exact ⟨S1,_,_,_,hr,trivial,BW.le (BR.comp live σ S1 hs) hc hk⟩
 unfold Rn at hK;split at hK
 ·rename_i id xL k';have e:=zBK hK;simp only [EL,zFg,and_true] at e;subst e;obtain ⟨Av,o,q1,q2,q3,q4⟩:=xS B6;exact Tr.next (S:=⟨fr,h⟩) hX.f Av q1 q2 (by unfold Md;rw [q3]) hx hm hj m8 hi (fun e=>by rw [q4];exact go c0 (k0 e)) (fun y hy=>by rw [q4];exact go (c1 y) (k1 y hy))
 ·cases hK
end
end Go.Proofs.YtekkngkphejfcaaGreatDoor
namespace Go.Proofs.YtekkngkphejfcaaGreatDoor
abbrev zBH:=@Nat.lt_succ_iff_lt_or_eq
abbrev zC4:=@List.mem_cons_self
end Go.Proofs.YtekkngkphejfcaaGreatDoor
namespace Go.Proofs.YtekkngkphejfcaaGreatDoor
open Go.RowKit
def AU {R:Type} (f:Nat -> Option R) (Q:R -> Prop):Prop:=∃ N,∀ n,N<=n -> ∃ r,f n=some r/\ Q r
def Ev {R:Type} (f:Nat -> Option R) (r:R):Prop:=∃ N,∀ n,N<=n -> f n=some r
section
variable {R T:Type} {f g:Nat -> Option R} {Q Q':R -> Prop} {r:R}
theorem Ev.p (h:Ev f r) (hq:Q r):AU f Q:=let ⟨N,h⟩:=h;⟨N,fun n hn=>⟨r,h n hn,hq⟩⟩
theorem AU.ev (h:AU f Q) (hu: ∀ r r',Q r -> Q r' -> r=r'): ∃ r,Q r/\ Ev f r:=by
 obtain ⟨N,h⟩:=h;obtain ⟨r,h1,h2⟩:=h N (zBa _);refine ⟨r,h2,N,fun n hn=>?_⟩;obtain ⟨r',h3,h4⟩:=h n hn;rw [h3,hu _ _ h4 h2]
theorem AU.mono (h:AU f Q) (hq: ∀ r,Q r -> Q' r):AU f Q':=let ⟨N,h⟩:=h;⟨N,fun n hn=>let ⟨r,h1,h2⟩:=h n hn;⟨r,h1,hq r h2⟩⟩
theorem AU.step (k:Nat) (h: ∀ n,f (n+k)=g n) (hg:AU g Q):AU f Q:=by
 obtain ⟨N,hg⟩:=hg;refine ⟨N+k,fun n hn=>?_⟩;have:=hg (n-k) (by omega);rw [←h,show n-k+k=n by omega] at this;exact this
theorem Ev.step (k:Nat) (h: ∀ n,f (n+k)=g n) (hg:Ev g r):Ev f r:=by
 obtain ⟨N,hg⟩:=hg;refine ⟨N+k,fun n hn=>?_⟩;have:=hg (n-k) (by omega)
 rwa [←h,show n-k+k=n by omega] at this
theorem Ev.now (h: ∀ n,f n=some r):Ev f r:=⟨0,fun n _=>h n⟩
theorem Ev.eq {f g:Nat -> Option R} (h:Ev g r) (e: ∀ n,f n=g n):Ev f r:=let ⟨N,h⟩:=h;⟨N,fun n hn=>(e n).trans (h n hn)⟩
theorem AU.eq {f g:Nat -> Option R} (h:AU g Q) (e: ∀ n,f n=g n):AU f Q:=let ⟨N,h⟩:=h;⟨N,fun n hn=>by rw [e];exact h n hn⟩
theorem Ev.bind {a:Nat -> Option T} {x:T} {b:Nat -> T -> Option R} (ha:Ev a x) (hb:Ev (fun n=>b n x) r):Ev (fun n=>(a n).bind (b n)) r:=by
 obtain ⟨N,ha⟩:=ha;obtain ⟨M,hb⟩:=hb;refine ⟨max N M,fun n hn=>?_⟩
 show (a n).bind (b n)=_
 rw [ha n (by omega),zA9];exact hb n (by omega)
theorem AU.bind {a:Nat -> Option T} {x:T} {b:Nat -> T -> Option R} (ha:Ev a x) (hb:AU (fun n=>b n x) Q):AU (fun n=>(a n).bind (b n)) Q:=by
 obtain ⟨N,ha⟩:=ha;obtain ⟨M,hb⟩:=hb;refine ⟨max N M,fun n hn=>?_⟩
 show ∃ r,(a n).bind (b n)=some r/\ _
 rw [ha n (by omega),zA9];exact hb n (by omega)
theorem AU.all {l:List T} {F:T -> Nat -> Option R} (h: ∀ y∈l,AU (F y) Q): ∃ N,∀ n,N<=n -> ∀ y∈l,∃ r,F y n=some r/\ Q r:=by
 induction l with
 | nil=>exact ⟨0,fun n _ y hy=>absurd hy zFe⟩
 | cons x l ih=>
  obtain ⟨N,hN⟩:=ih fun y hy=>h y (zCG _ hy)
  obtain ⟨M,hM⟩:=h x zC4;refine ⟨max N M,fun n hn y hy=>?_⟩;rcases zCB.1 hy with rfl | hy
  ·exact hM n (by omega)
  ·exact hN n (by omega) y hy
theorem AU.range {F:Nat -> Nat -> Option R} {A:Nat -> R -> Prop}: ∀ (k:Nat),(∀ i,i<k -> AU (F i) (A i)) -> ∃ N,∀ n,N<=n -> ∀ i,i<k -> ∃ r,F i n=some r/\ A i r
 | 0,_=>⟨0,fun n _ i hi=>absurd hi (zBW i)⟩
 | k+1,h=>by
  obtain ⟨N,hN⟩:=AU.range k fun i hi=>h i (by omega)
  obtain ⟨M,hM⟩:=h k (by omega);refine ⟨max N M,fun n hn i hi=>?_⟩;rcases zBH.1 hi with hi | rfl
  ·exact hN n (by omega) i hi
  ·exact hM n (by omega)
theorem AU.next [DecidableEq R] {rem:KS} {a:Nat -> Option R} {F:Nat -> List Int -> Option R} (hn:rem≠[]) (h: ∀ y∈rem,AU (fun n=>F n y) Q) (hu: ∀ r r',Q r -> Q r' -> r=r'):AU (fun n=>Hv rem (a n) (F n)) Q:=by
 obtain ⟨N,hN⟩:=AU.all h;refine ⟨N,fun n Px=>?_⟩;obtain ⟨y0,zX⟩:=List.exists_mem_of_ne_nil rem hn;obtain ⟨r,h1,h2⟩:=hN n Px y0 zX;refine ⟨r,xN hn fun y hy=>?_,h2⟩;obtain ⟨r',h3,h4⟩:=hN n Px y hy;rw [hu _ _ h2 h4];exact h3
end
end Go.Proofs.YtekkngkphejfcaaGreatDoor
namespace Go.Proofs.YtekkngkphejfcaaGreatDoor
open Go.RowKit
class HC (F:Fence):Prop where
 x:HX F Tryz.prog
 w:F=Fence.wide∨∃ l,F=Fence.wide.inRound l
instance:HC Fence.wide:=⟨⟨EI.wide,by kernel_rfl⟩,.inl rfl⟩
instance (l:Nat):HC (Fence.wide.inRound l):=⟨⟨EI.round l,by kernel_rfl⟩,.inr ⟨l,rfl⟩⟩
abbrev DV.i (x:Int):DV:=.int .i64 x
def AE:BJ:=fun _=>.no
def Hy:Nat -> List DV -> List Nat
 | _,[]=>[]
 | i,.any::r=>Hy (i+1) r
 | i,_::r=>i::Hy (i+1) r
section
variable {F:Fence} {B:Option Nat} {L:Nat} {Y N:Be Tryz.prog GG L} {Q:QY Tryz.prog GG L} {k k':List KI} {S:St} {fr:List DV} {h' h2:DH} {c:List (DV×DH×Bool)} {o:List (Nat×DV)} {z:List (Nat×Fz)} {v w:List Prop}
theorem gz [hX:HC F] (Ay:BJ) (σ:List Nat) (hl:HS c o z v) (ks:List Nat) (hz:HS [] [] [] w) (k':List KI) (fr:List DV) (h':DH) (hk:A3 Tryz.prog GG F B L Y Q k' ⟨fr,h'⟩) (tg:List (List (Nat×Nat)×St):=[])
 (h:(B3 Tryz.prog GG Ay 400 k S ⟨c,o,z,tg⟩).bind (Lk (Hy 0 fr) σ L ks)=some (.at k',fr,h',v,w,[],[],true):=by kernel_rfl) (hc:Ij k'=true:=by kernel_rfl):A3 Tryz.prog GG F B L Y Q k S:=
 BW.gS hX.x Ay 400 (Hy 0 fr) σ tg hl ks hz k' fr h' h hc hk
theorem gs [hX:HC F] (Ay:BJ) (σ:List Nat) (hl:HS c o z v) (k':List KI) (fr:List DV) (h':DH) (hk:A3 Tryz.prog GG F B L Y Q k' ⟨fr,h'⟩) (tg:List (List (Nat×Nat)×St):=[])
 (h:(B3 Tryz.prog GG Ay 400 k S ⟨c,o,z,tg⟩).bind (Lk (Hy 0 fr) σ L [])=some (.at k',fr,h',v,[],[],[],true):=by kernel_rfl) (hc:Ij k'=true:=by kernel_rfl):A3 Tryz.prog GG F B L Y Q k S:=
 BW.gS hX.x Ay 400 (Hy 0 fr) σ tg hl [] H0 k' fr h' h hc hk
theorem gg [hX:HC F] (Ay:BJ) (σ:List Nat) (hl:HS c o z v) (hk:A3 Tryz.prog GG F B L Y Q k' ⟨fr,h'⟩) (tg:List (List (Nat×Nat)×St):=[])
 (h:(B3 Tryz.prog GG Ay 400 k S ⟨c,o,z,tg⟩).bind (Lk (Hy 0 fr) σ L [])=some (.at k',fr,h',v,[],[],[],true):=by kernel_rfl) (hc:Ij k'=true:=by kernel_rfl):A3 Tryz.prog GG F B L Y Q k S:=
 BW.gS hX.x Ay 400 (Hy 0 fr) σ tg hl [] H0 k' fr h' h hc hk
theorem el [hX:HC F] {fn:Func} {d:DV} (Ay:BJ) (live σ:List Nat) (hl:HS c o z v) (ks:List Nat) (hz:HS [] [] [] w) (rs:List DV) (le:AS (JM rs) d) (tg:List (List (Nat×Nat)×St):=[])
 (h:(B3 Tryz.prog GG Ay 400 k S ⟨c,o,z,tg⟩).bind (Jf Tryz.prog live σ L ks fn d h2.length)=some (true,rs,h2,v,w,[],[],true):=by kernel_rfl):BW Tryz.prog GG F B L N (F6 Tryz.prog fn L d h2) k S:=
 BW.el hX.x Ay 400 live σ tg hl ks hz rs le h
theorem ez [hX:HC F] {fn:Func} {d:DV} (Ay:BJ) (live σ:List Nat) (hl:HS c o z v) (ks:List Nat) (hz:HS [] [] [] w) (tg:List (List (Nat×Nat)×St):=[])
 (h:(B3 Tryz.prog GG Ay 400 k S ⟨c,o,z,tg⟩).bind (fun r=>(Jf Tryz.prog live σ L ks fn d h2.length r).map fun q=>(q.1,JM q.2.1,q.2.2))=some (true,d,h2,v,w,[],[],true):=by kernel_rfl):BW Tryz.prog GG F B L N (F6 Tryz.prog fn L d h2) k S:=
 BW.e hX.x Ay 400 live σ tg hl ks hz h
theorem ee [hX:HC F] {fn:Func} {d:DV} (Ay:BJ) (live σ:List Nat) (hl:HS c o z v) (tg:List (List (Nat×Nat)×St):=[])
 (h:(B3 Tryz.prog GG Ay 400 k S ⟨c,o,z,tg⟩).bind (fun r=>(Jf Tryz.prog live σ L [] fn d h2.length r).map fun q=>(q.1,JM q.2.1,q.2.2))=some (true,d,h2,v,[],[],[],true):=by kernel_rfl):BW Tryz.prog GG F B L N (F6 Tryz.prog fn L d h2) k S:=
 BW.e hX.x Ay 400 live σ tg hl [] H0 h
theorem rr [hX:HC F] {ex:List Exit} {i:Nat} {e:Exit} (Ay:BJ) (σ:List Nat) (he:(Exit.normal::ex)[i]? =some e) (hl:HS c o z v) (tg:List (List (Nat×Nat)×St):=[])
 (h:(B3 Tryz.prog GG Ay 400 k S ⟨c,o,z,tg⟩).map (aR σ L)=some (some e,h2,v,[],[],[],true):=by kernel_rfl):BW Tryz.prog GG F B L N (DX L ex i h2) k S:=
 BW.r hX.x Ay 400 σ tg hl he h
theorem ag [hX:HC F] {Q:Exit -> St -> Prop} {assign body:Code} (Ay:BJ) (σ:List Nat) (hl:HS c o z v) (fr:List DV) (h':DH) (hk: ∀ N2:Be Tryz.prog GG L,BW Tryz.prog GG F B L N2 Q [.code body] ⟨fr,h'⟩)
 (h:(B3 Tryz.prog GG Ay 400 [.code assign] S ⟨c,o,z,[]⟩).map (Sk (Hy 0 fr) σ L)=some (.at [],fr,h',v,[],[],true):=by kernel_rfl):GV Tryz.prog GG F B L N Q assign body S:=
 GV.g hX.x Ay 400 (Hy 0 fr) σ hl fr h' h hk
theorem rd {n m:Nat} (hm:n+1<=m) (h: ∀ m,n<=m -> A3 Tryz.prog GG F B L Y Q (fY m k) S) (hk:Ng k=true:=by kernel_rfl):A3 Tryz.prog GG F B L Y Q (Ah m k) S:=BW.round hm hk h
theorem en (m:Nat) (h:A3 Tryz.prog GG F B L Y Q (Ah m k) S) (hk:Ng k=true:=by kernel_rfl):A3 Tryz.prog GG F B L Y Q k S:=BW.enter m hk h
end
theorem em {f:Nat} {ds:List DV} {h:DH} {d:DV} {h':DH} {ext:Bool} (Er:ES Tryz.prog GG f ds h d h' ext) (σ:List Nat) (H:DH) (hb:MG σ H.length h.length h'.length=true:=by kernel_rfl) (hh:(σ.map fun k=>H.getD k none)=h.map (Cq σ H.length):=by kernel_rfl):ES Tryz.prog GG f (ds.map (up σ H.length)) H (up σ H.length d) (Cw H σ h') ext:=ES.emC Er σ H hb hh
theorem es {f:Nat} {ds:List DV} {h:DH} {d:DV} {h':DH} {ext:Bool} (Er:ES Tryz.prog GG f ds h d h' ext) (σ:List Nat) (H:DH) (Dx:List DV) (ha:Wc H σ Dx ds) (hb:MG σ H.length h.length h'.length=true:=by kernel_rfl) (hh:(σ.map fun k=>H.getD k none)=h.map (Cq σ H.length):=by kernel_rfl) (hs:(IR d&&h'.all RC)=true:=by kernel_rfl):ES Tryz.prog GG f Dx H (up σ H.length d) (Cw H σ h') ext:=ES.embedSB Er σ H ha hb hh hs
theorem fb {f:Nat} {ds:List DV} {d:DV} (h0:ES Tryz.prog GG f ds [] d [] true) (h:DH) (Fl:ds.all HF=true:=by kernel_rfl):ES Tryz.prog GG f ds h d h true:=ES.frameB h0 h Fl
theorem sb {f:Nat} (ds:List DV) {Dk:List DV} {d:DV} (h0:ES Tryz.prog GG f Dk [] d [] true) (h:DH) (hs:MP h ds Dk) (hd:VD d=true:=by kernel_rfl):ES Tryz.prog GG f ds h d h true:=ES.snapB h0 h hs hd
theorem ot {f:Nat} {fn:Func} {ds:List DV} {h:DH} {d:DV} {h':DH} {ext:Bool} (hf:Tryz.prog.funcs[f]? =some fn) (H: ∀ (B:Nat) (N:Be Tryz.prog GG h.length),BW Tryz.prog GG Fence.wide (some B) h.length N (F6 Tryz.prog fn h.length d h') (start fn) ⟨ds++List.replicate (fn.ntmps-ds.length) .any,h⟩)
 (hb:fn.body.isSome=true:=by kernel_rfl) (Kq:(fn.name== "runtime.NumGoroutine")=false:=by kernel_rfl) (hni:h'.all ac=true:=by kernel_rfl) (Ju:(!ext||h.isEmpty)=true:=by kernel_rfl):ES Tryz.prog GG f ds h d h' ext:=
 ES.of_trk hf hb Kq (lJ hni) (fun e=>by subst e;simpa using Ju) H
section
variable {F:Fence} {B L:Nat} {Y:Be Tryz.prog GG L} {Q:QY Tryz.prog GG L} {fr:List DV} {h:DH} {K:List KI} {a b:Code} {α σ:Type} {l:List α} {H:σ -> DH} {FR:α -> List DV}
theorem rx [hX:HC F] (ex:List Exit) (kk t:Nat) (ps:Array Tmp) (enc:α -> Array Value) (L':Nat) {f:α -> σ -> Option (σ×Nat)} {s0:σ} {rE:σ×Nat} (hf:Es f l s0=some rE)
 (Dh: ∀ (l B:Nat) (N:Be Tryz.prog GG L') (x:α) (s:σ) (r:σ×Nat),f x s=some r -> GV Tryz.prog GG (Fence.wide.inRound l) (some B) L' N (DX L' ex r.2 (H r.1)) a b ⟨FR x,H s⟩)
 (EZ: ∀ e,(Exit.normal::ex)[rE.2]? =some e -> Dm Tryz.prog GG F (some B) L Q (EL K) e ⟨fr,H rE.1⟩ Y) (Jv:(ex.all fun e=>(Kx e).isSome)=true:=by kernel_rfl)
 (hK:Mx K=some (.tmp t,ps,a,b,EL K):=by kernel_rfl) (hg:Ao fr (.tmp t)= .it kk:=by kernel_rfl) (hk:h[kk]? =some (some (.iter (l.map enc))):=by kernel_rfl) (D6: ∀ x,(enc x).size=ps.size:=by exact fun _=>rfl) (hL:Nat.ble L L'=true:=by kernel_rfl) (GT:fr.all (Ge L')=true:=by kernel_rfl) (h0:h.set kk none=H s0:=by kernel_rfl) (EY:(fun x=>KG fr ps.toList (enc x).toList)=FR:=by kernel_rfl):A3 Tryz.prog GG F (some B) L Y Q K ⟨fr,h⟩:=
 BW.rg hX.w ex Jv kk t ps enc L' hf Dh hK hg hk D6 hL GT h0 EY EZ
theorem r0 [hX:HC F] (kk t:Nat) (ps:Array Tmp) (enc:α -> Array Value) (L':Nat) {f:α -> σ -> Option σ} {s0 sE:σ} (hf:CC f l s0=some sE)
 (Dh: ∀ (l B:Nat) (N:Be Tryz.prog GG L') (x:α) (s r:σ),f x s=some r -> GV Tryz.prog GG (Fence.wide.inRound l) (some B) L' N (DX L' [] 0 (H r)) a b ⟨FR x,H s⟩)
 (EZ:A3 Tryz.prog GG F (some B) L Y Q (EL K) ⟨fr,H sE⟩)
 (hK:Mx K=some (.tmp t,ps,a,b,EL K):=by kernel_rfl) (hg:Ao fr (.tmp t)= .it kk:=by kernel_rfl) (hk:h[kk]? =some (some (.iter (l.map enc))):=by kernel_rfl) (D6: ∀ x,(enc x).size=ps.size:=by exact fun _=>rfl) (hL:Nat.ble L L'=true:=by kernel_rfl) (GT:fr.all (Ge L')=true:=by kernel_rfl) (h0:h.set kk none=H s0:=by kernel_rfl) (EY:(fun x=>KG fr ps.toList (enc x).toList)=FR:=by kernel_rfl):A3 Tryz.prog GG F (some B) L Y Q K ⟨fr,h⟩:=
 BW.rg0 hX.w kk t ps enc L' hf Dh hK hg hk D6 hL GT h0 EY EZ
end
abbrev Yd (L:Nat):=Be Tryz.prog GG L
abbrev EQ:=ES Tryz.prog GG
abbrev FQ:=F6 Tryz.prog
abbrev TW (B:Nat) {L:Nat} (N:Yd L) (Q:Exit -> St -> Prop) (k:List KI) (S:St):Prop:=BW Tryz.prog GG Fence.wide (some B) L N Q k S
abbrev TA (l B:Nat) {L:Nat} (N:Yd L) (Q:Exit -> St -> Prop) (fn:Func) (t:Nat) (S:St):Prop:=GV Tryz.prog GG (Fence.wide.inRound l) (some B) L N Q (uT fn t) (VX fn t) S
abbrev Al {X R:Type} (m:Nat -> X -> Option R) (T:Nat -> R -> X -> Prop):Prop:=∀ n x r,m n x=some r -> T n r x
theorem ia {X R:Type} {m:Nat -> X -> Option R} {T:Nat -> R -> X -> Prop} (h0: ∀ x,m 0 x=none) (h: ∀ n,(∀ x r,m n x=some r -> T n r x) -> ∀ x r,m (n+1) x=some r -> T (n+1) r x):Al m T
 | 0,x,_,e=>by rw [h0 x] at e;cases e
 | n+1,x,r,e=>h n (ia h0 h n) x r e
/-A proof in fc shape of qY was read off:qY holds of each way on,fc hints gathered so Gm. -/
def Gt {R:Type} (T:R -> Prop) (c:List (DV×DH×Bool)) (o:List (Nat×DV)) (z:List (Nat×Fz)) (v:List Prop) (A:Option R):Prop:=HS c o z v -> ∀ r,A=some r -> T r
section
variable {R R':Type} {T:R -> Prop} {c:List (DV×DH×Bool)} {o:List (Nat×DV)} {z:List (Nat×Fz)} {v:List Prop} {A A':Option R} {r0:R} {b b':Bool} {p q:Prop} {f:Nat} {ds:List DV} {h h':DH} {d d':DV} {e:Bool} {xi:Int}
theorem gO {F:Fence} {B:Option Nat} {L:Nat} {Y:Yd L} {Q:R -> QY Tryz.prog GG L} {k:List KI} {S:St} (t:Gt (fun r=>A3 Tryz.prog GG F B L Y (Q r) k S) [] [] [] [] A): ∀ r,A=some r -> A3 Tryz.prog GG F B L Y (Q r) k S:=t H0
theorem rO (t:Gt T [] [] [] [] A):Gt T c o z v A:=fun _=>t H0
theorem nO:Gt T c o z v none:=fun _ _ h=>by cases h
theorem lF (x:HS c o z v -> T r0):Gt T c o z v (some r0):=fun p _ h=>zBK h▸x p
theorem bn (x:b=true -> Gt T c o z v A) (y:b=false -> Gt T c o z v A'):Gt T c o z v (bif b then A else A'):=fun p r h=>(Kz h).elim (fun h=>x h.1 p r h.2) (fun h=>y h.1 p r h.2)
theorem bj (t:Nat) (x:b=true -> Gt T c (o++[(t,.bool true)]) z (v++[AS (.bool b) (.bool true)]) A) (y:b=false -> Gt T c (o++[(t,.bool false)]) z (v++[AS (.bool b) (.bool false)]) A'):Gt T c o z v (bif b then A else A'):=bn (fun h p=>x h (p.b t h)) (fun h p=>y h (p.b t h))
theorem bi (t:Nat) (x:Gt T c (o++[(t,.bool true)]) z (v++[AS (.bool b) (.bool true)]) A) (y:Gt T c (o++[(t,.bool false)]) z (v++[AS (.bool b) (.bool false)]) A'):Gt T c o z v (bif b then A else A'):=bj t (fun _=>x) (fun _=>y)
theorem gn {_:Decidable p} (x:p -> Gt T c o z v A):Gt T c o z v (if p then A else none):=fun w r h=>x (Fn h).1 w r (Fn h).2
theorem gi {_:Decidable p} (x:Gt T c o z (v++[p]) A):Gt T c o z v (if p then A else none):=gn fun g w=>x (w.g g)
theorem gc {_:Decidable p} {_:Decidable q} (x:Gt T c o z v (if p then (if q then A else none) else none)):Gt T c o z v (if p/\ q then A else none):=fun w r h=>x w r (by obtain ⟨⟨hp,hq⟩,h⟩:=Fn h;rw [zAE hp,zAE hq];exact h)
theorem gw {_:Decidable (AG xi)} (t:Nat) (x:Gt T c (o++[(t,.int .i64 xi)]) z (v++[AS (.int .i64 (IntKind.i64.wrap xi)) (.int .i64 xi)]) A):Gt T c o z v (if AG xi then A else none):=gn fun g w=>x (w.w t g)
theorem cn {F:Option R'} {A:R' -> Option R} (x: ∀ y,F=some y -> Gt T c o z v (A y)):Gt T c o z v (F.bind A):=fun w r h=>let ⟨y,hy,h⟩:=pT h;x y hy w r h
theorem cf {F:Option R'} {A:R' -> Option R} {d:R' -> DV} (k: ∀ {y},F=some y -> ES Tryz.prog GG f ds [] (d y) [] true) (h:DH) (x: ∀ y,Gt T (c++[(d y,h,true)]) o z (v++[ES Tryz.prog GG f ds h (d y) h true]) (A y)) (Fl:ds.all HF=true:=by kernel_rfl):Gt T c o z v (F.bind A):=cn fun y hy w=>x y (w.c (fb (k hy) h Fl))
theorem ce {F:Option R'} {A:R' -> Option R} {d:R' -> DV} {h':R' -> DH} (k: ∀ {y},F=some y -> ES Tryz.prog GG f ds h (d y) (h' y) e) (σ:List Nat) (H:DH) (x: ∀ y,Gt T (c++[(up σ H.length (d y),Cw H σ (h' y),e)]) o z (v++[ES Tryz.prog GG f (ds.map (up σ H.length)) H (up σ H.length (d y)) (Cw H σ (h' y)) e]) (A y)) (hb: ∀ y,MG σ H.length h.length (h' y).length=true:=by intro;kernel_rfl) (hh:(σ.map fun k=>H.getD k none)=h.map (Cq σ H.length):=by kernel_rfl):Gt T c o z v (F.bind A):=cn fun y hy w=>x y (w.c (em (k hy) σ H (hb y) hh))
theorem jb (t:Nat) (g:b=b') (x:Gt T c (o++[(t,.bool b')]) z (v++[AS (.bool b) (.bool b')]) A):Gt T c o z v A:=fun w=>x (w.b t g)
theorem jw (t:Nat) (g:AG xi) (x:Gt T c (o++[(t,.int .i64 xi)]) z (v++[AS (.int .i64 (IntKind.i64.wrap xi)) (.int .i64 xi)]) A):Gt T c o z v A:=fun w=>x (w.w t g)
theorem jg (g:p) (x:Gt T c o z (v++[p]) A):Gt T c o z v A:=fun w=>x (w.g g)
theorem jt (x:Gt T c o z (v++[True]) A):Gt T c o z v A:=fun w=>x w.t
theorem jo (t:Nat) (g:AS d d') (x:Gt T c (o++[(t,d')]) z (v++[AS d d']) A):Gt T c o z v A:=fun w=>x (w.o t g)
theorem jc (g:ES Tryz.prog GG f ds h d h' e) (x:Gt T (c++[(d,h',e)]) o z (v++[ES Tryz.prog GG f ds h d h' e]) A):Gt T c o z v A:=fun w=>x (w.c g)
theorem ja (t k m:Nat) {n n':Nat} {f f':Nat -> Nat -> DV} (g:n=n'/\ ∀ i j,i<n -> j<m -> AS (f i j) (f' i j)) (x:Gt T c o (z++[(t,.arr k n' f')]) (v++[n=n'/\ ∀ i j,i<n -> j<m -> AS (f i j) (f' i j)]) A):Gt T c o z v A:=fun w=>x (w.a t k m g)
theorem jz (t k:Nat) (x:Gt T c o (z++[(t,.frz k)]) v A):Gt T c o z v A:=fun w=>x (w.z t k)
theorem ju (t k:Nat) (x:Gt T c o (z++[(t,.unf k)]) v A):Gt T c o z v A:=fun w=>x (w.u t k)
end
section
variable {R:Type} {c:List (DV×DH×Bool)} {o:List (Nat×DV)} {z:List (Nat×Fz)} {v:List Prop} {A:Option R} {r0:R} {F:Fence} {B:Option Nat} {L:Nat} {Y N:Be Tryz.prog GG L} {k k':List KI} {S:St} {fr:List DV} {h':DH}
theorem lG [hX:HC F] (Ay:BJ) (σ:List Nat) {Q:R -> QY Tryz.prog GG L} (hk: ∀ {r},A=some r -> A3 Tryz.prog GG F B L Y (Q r) k' ⟨fr,h'⟩) (tg:List (List (Nat×Nat)×St):=[])
 (h:(B3 Tryz.prog GG Ay 400 k S ⟨c,o,z,tg⟩).bind (Lk (Hy 0 fr) σ L [])=some (.at k',fr,h',v,[],[],[],true):=by kernel_rfl) (hc:Ij k'=true:=by kernel_rfl):Gt (fun r=>A3 Tryz.prog GG F B L Y (Q r) k S) c o z v A:=
 fun p _ e=>gg Ay σ p (hk e) tg h hc
theorem lN [hX:HC F] {m:Nat} (Ay:BJ) (σ:List Nat) {Q:R -> QY Tryz.prog GG L} (hk: ∀ {r},A=some r -> A3 Tryz.prog GG F B L Y (Q r) (Ah m k') ⟨fr,h'⟩) (tg:List (List (Nat×Nat)×St):=[])
 (h:(B3 Tryz.prog GG Ay 400 k S ⟨c,o,z,tg⟩).bind (Lk (Hy 0 fr) σ L [])=some (.at k',fr,h',v,[],[],[],true):=by kernel_rfl) (hc:Ij k'=true:=by kernel_rfl) (hm:Ng k'=true:=by kernel_rfl):Gt (fun r=>A3 Tryz.prog GG F B L Y (Q r) k S) c o z v A:=
 lG Ay σ (fun e=>en m (hk e) hm) tg h hc
theorem lE [hX:HC F] {fn:Func} {D:R -> DV} {E:R -> DH} (Ay:BJ) (live σ:List Nat) (tg:List (List (Nat×Nat)×St):=[])
 (h:(B3 Tryz.prog GG Ay 400 k S ⟨c,o,z,tg⟩).bind (fun r=>(Jf Tryz.prog live σ L [] fn (D r0) (E r0).length r).map fun q=>(q.1,JM q.2.1,q.2.2))=some (true,D r0,E r0,v,[],[],[],true):=by kernel_rfl):Gt (fun r=>BW Tryz.prog GG F B L N (F6 Tryz.prog fn L (D r) (E r)) k S) c o z v (some r0):=
 lF fun p=>ee Ay live σ p tg h
end
end Go.Proofs.YtekkngkphejfcaaGreatDoor
namespace Go.Proofs.YtekkngkphejfcaaGreatDoor
abbrev zBZ:=@Nat.le_of_succ_le
end Go.Proofs.YtekkngkphejfcaaGreatDoor
namespace Go.Proofs.YtekkngkphejfcaaGreatDoor
open Go.RowKit
set_option maxRecDepth 100000
set_option maxHeartbeats 40000000
inductive XV where
 | l1 (x5:Int)
def cw (n:Nat) (self:XV -> Option Bool) (l_:List Int) (n_:Int) (x5:Int):Option Bool:=
 bif (decide (x5<(l_.length:Int))) then
  if 0<=x5/\ x5<(l_.length:Int) then
   bif ((l_.getD ((x5).toNat) 0)==n_) then
    some true
   else
    if AG (x5+1) then
     self (.l1 (x5+1))
    else none
  else none
 else
  some false
def nZ (n:Nat) (self:XV -> Option Bool) (l_:List Int) (n_:Int):Option Bool:=
 self (.l1 0)
def P6 (l_:List Int) (n_:Int):Nat -> XV -> Option Bool
 | 0,_=>none
 | n+1,.l1 x5=>cw n (P6 l_ n_ n) l_ n_ x5
def has (n:Nat) (l_:List Int) (n_:Int):Option Bool:=nZ n (P6 l_ n_ n) l_ n_
def zB6 (n B:Nat) (N:Yd 0) (l_:List Int) (n_:Int) (r:Bool):XV -> Prop
 | .l1 x5=>∀ m0:Nat,n<=m0 -> TW B N (FQ Tryz.f102 0 (.bool r) []) (Ah m0 (Ap (AW Tryz.f102) 0 [])) ⟨AM 18 [(0,.ints l_),(1,.i n_),(5,.i x5)],[]⟩
theorem zB7 (B:Nat) (N:Yd 0) (l_:List Int) (n_:Int):Al (P6 l_ n_) (zB6 · B N l_ n_):=ia (fun _=>rfl) fun n AF pt r h=>by
 cases pt
 case l1 x5=>
  intro m0 AB;refine rd AB fun m0 AB=>?_
  revert r;apply gO;exact bi 9 (gi (bi 17 (lE AE [4] []) (gw 11 (lG AE [] (AF _ _ · m0 AB))))) (lE AE [4] [])
theorem cv {n:Nat} {l_:List Int} {n_:Int} {r:Bool} (h:has n l_ n_=some r):EQ 102 [.ints l_,.i n_] [] (.bool r) [] true:=by
 refine ot Tryz.func102 fun B N=>?_
 revert r;apply gO;exact lN AE [] ((zB7 B N l_ n_ n) _ _ · n Nat.le.refl)
inductive YQ where
 | l1 (x7:Int)
def dw (n:Nat) (self:YQ -> Option Bool) (l_:List Int) (lo hi:Int) (x7:Int):Option Bool:=
 bif (decide (x7<(l_.length:Int))) then
  if 0<=x7/\ x7<(l_.length:Int) then
   bif (decide ((l_.getD ((x7).toNat) 0)<lo)) then
    some false
   else
    bif (decide ((l_.getD ((x7).toNat) 0)>hi)) then
     some false
    else
     if AG (x7+1) then
      self (.l1 (x7+1))
     else none
  else none
 else
  some true
def pU (n:Nat) (self:YQ -> Option Bool) (l_:List Int) (lo hi:Int):Option Bool:=
 self (.l1 0)
def Qc (l_:List Int) (lo hi:Int):Nat -> YQ -> Option Bool
 | 0,_=>none
 | n+1,.l1 x7=>dw n (Qc l_ lo hi n) l_ lo hi x7
def MM (n:Nat) (l_:List Int) (lo hi:Int):Option Bool:=pU n (Qc l_ lo hi n) l_ lo hi
def zEI (n B:Nat) (N:Yd 0) (l_:List Int) (lo hi:Int) (r:Bool):YQ -> Prop
 | .l1 x7=>∀ m0:Nat,n<=m0 -> TW B N (FQ Tryz.f74 0 (.bool r) []) (Ah m0 (Ap (AW Tryz.f74) 0 [])) ⟨AM 28 [(0,.ints l_),(1,.i lo),(2,.i hi),(7,.i x7)],[]⟩
theorem zEJ (B:Nat) (N:Yd 0) (l_:List Int) (lo hi:Int):Al (Qc l_ lo hi) (zEI · B N l_ lo hi):=ia (fun _=>rfl) fun n AF pt r h=>by
 cases pt
 case l1 x7=>
  intro m0 AB;refine rd AB fun m0 AB=>?_
  revert r;apply gO;exact bi 11 (gn fun g0=>jg g0 (bi 19 (lE AE [6] []) (jg g0 (bi 26 (lE AE [6] []) (gw 13 (lG AE [] (AF _ _ · m0 AB))))))) (lE AE [6] [])
theorem UQ {n:Nat} {l_:List Int} {lo hi:Int} {r:Bool} (h:MM n l_ lo hi=some r):EQ 74 [.ints l_,.i lo,.i hi] [] (.bool r) [] true:=by
 refine ot Tryz.func74 fun B N=>?_
 revert r;apply gO;exact lN AE [] ((zEJ B N l_ lo hi n) _ _ · n Nat.le.refl)
theorem tI:Af (Ax Tryz.f103 7) [] (List.range 9) []:=by unfold Af;kernel_rfl
def Oq:BJ:=fun i=>match i with
 | 7=>.ord [] (List.range 9) []
 | _=>.no
inductive QS where
 | l1 (x3:Int)
 | l2 (x3 x4:Int)
def da (n:Nat) (self:QS -> Option Bool) (l_:List Int) (x3:Int):Option Bool:=
 bif (decide (x3<(l_.length:Int))) then
  self (.l2 x3 0)
 else
  some true
def X3 (n:Nat) (self:QS -> Option Bool) (l_:List Int) (x3 x4:Int):Option Bool:=
 bif (decide (x4<x3)) then
  if (0<=x3/\ x3<(l_.length:Int))/\ (0<=x4/\ x4<(l_.length:Int)) then
   bif ((l_.getD ((x3).toNat) 0)==(l_.getD ((x4).toNat) 0)) then
    some false
   else
    if AG (x4+1) then
     self (.l2 x3 (x4+1))
    else none
  else none
 else
  if AG (x3+1) then
   self (.l1 (x3+1))
  else none
def ov (n:Nat) (self:QS -> Option Bool) (l_:List Int):Option Bool:=
 self (.l1 0)
def I7 (l_:List Int):Nat -> QS -> Option Bool
 | 0,_=>none
 | n+1,.l1 x3=>da n (I7 l_ n) l_ x3
 | n+1,.l2 x3 x4=>X3 n (I7 l_ n) l_ x3 x4
def X5 (n:Nat) (l_:List Int):Option Bool:=ov n (I7 l_ n) l_
def zDK (n B:Nat) (N:Yd 0) (l_:List Int) (r:Bool):QS -> Prop
 | .l1 x3=>∀ m0:Nat,n<=m0 -> TW B N (FQ Tryz.f103 0 (.bool r) []) (Ah m0 (Ap (AW Tryz.f103) 0 [])) ⟨AM 25 [(0,.ints l_),(3,.i x3)],[]⟩
 | .l2 x3 x4=>∀ m0 m1:Nat,n<=m0 -> n<=m1 -> TW B N (FQ Tryz.f103 0 (.bool r) []) (Ah m1 (Ap (AW Tryz.f103) 2 [m0])) ⟨AM 25 [(0,.ints l_),(3,.i x3),(4,.i x4)],[]⟩
theorem zDL (B:Nat) (N:Yd 0) (l_:List Int):Al (I7 l_) (zDK · B N l_):=ia (fun _=>rfl) fun n AF pt r h=>by
 cases pt
 case l1 x3=>
  intro m0 AB;refine rd AB fun m0 AB=>?_
  revert r;apply gO;exact bi 8 (lN Oq [] (AF _ _ · m0 n AB Nat.le.refl)) (lE Oq [2] [])
 case l2 x3 x4=>
  intro m0 m1 AB AR;have AB:=zBZ AB;refine rd AR fun m1 AR=>?_
  revert r;apply gO;exact bi 13 (jg tI (gc (gi (gi (bi 24 (lE Oq [2] []) (gw 15 (lG Oq [] (AF _ _ · m0 m1 AB AR)))))))) (gw 10 (lG Oq [] (AF _ _ · m0 AB)))
theorem zDI {n:Nat} {l_:List Int} {r:Bool} (h:X5 n l_=some r):EQ 103 [.ints l_] [] (.bool r) [] true:=by
 refine ot Tryz.func103 fun B N=>?_
 revert r;apply gO;exact lN Oq [] ((zDL B N l_ n) _ _ · n Nat.le.refl)
inductive Ww where
 | l1 (x8:Int)
def bQ (n:Nat) (self:Ww -> Option Int) (s_:List Int) (v:Int) (x8:Int):Option Int:=
 bif (decide (x8<(s_.length:Int))) then
  if 0<=x8/\ x8<(s_.length:Int) then
   bif (v==(s_.getD ((x8).toNat) 0)) then
    some x8
   else
    if AG (x8+1) then
     self (.l1 (x8+1))
    else none
  else none
 else
  some (-1)
def mT (n:Nat) (self:Ww -> Option Int) (s_:List Int) (v:Int):Option Int:=
 self (.l1 0)
def Nl (s_:List Int) (v:Int):Nat -> Ww -> Option Int
 | 0,_=>none
 | n+1,.l1 x8=>bQ n (Nl s_ v n) s_ v x8
def Wx (n:Nat) (s_:List Int) (v:Int):Option Int:=mT n (Nl s_ v n) s_ v
def zC (n B:Nat) (N:Yd 0) (s_:List Int) (v:Int) (r:Int):Ww -> Prop
 | .l1 x8=>∀ m0:Nat,n<=m0 -> TW B N (FQ Tryz.f125 0 (.i r) []) (Ah m0 (Ap (AW Tryz.f125) 0 [])) ⟨AM 19 [(0,.ints s_),(1,.i v),(7,.i (s_.length:Int)),(8,.i x8)],[]⟩
theorem zD (B:Nat) (N:Yd 0) (s_:List Int) (v:Int):Al (Nl s_ v) (zC · B N s_ v):=ia (fun _=>rfl) fun n AF pt r h=>by
 cases pt
 case l1 x8=>
  intro m0 AB;refine rd AB fun m0 AB=>?_
  revert r;apply gO;exact bi 9 (gi (bi 16 (lE AE [4] []) (gw 18 (lG AE [] (AF _ _ · m0 AB))))) (lE AE [4] [])
theorem zB {n:Nat} {s_:List Int} {v:Int} {r:Int} (h:Wx n s_ v=some r):EQ 125 [.ints s_,.i v] [] (.i r) [] true:=by
 refine ot Tryz.func125 fun B N=>?_
 revert r;apply gO;exact lN AE [] ((zD B N s_ v n) _ _ · n Nat.le.refl)
inductive W0 where
 | l1 (x8:Int)
def TC (n:Nat) (self:W0 -> Option Int) (s_:List Bool) (v:Bool) (x8:Int):Option Int:=
 bif (decide (x8<(s_.length:Int))) then
  if 0<=x8/\ x8<(s_.length:Int) then
   bif (v==(s_.getD ((x8).toNat) false)) then
    some x8
   else
    if AG (x8+1) then
     self (.l1 (x8+1))
    else none
  else none
 else
  some (-1)
def zI (n:Nat) (self:W0 -> Option Int) (s_:List Bool) (v:Bool):Option Int:=
 self (.l1 0)
def Kn (s_:List Bool) (v:Bool):Nat -> W0 -> Option Int
 | 0,_=>none
 | n+1,.l1 x8=>TC n (Kn s_ v n) s_ v x8
def W4 (n:Nat) (s_:List Bool) (v:Bool):Option Int:=zI n (Kn s_ v n) s_ v
def zJ (n B:Nat) (N:Yd 0) (s_:List Bool) (v:Bool) (r:Int):W0 -> Prop
 | .l1 x8=>∀ m0:Nat,n<=m0 -> TW B N (FQ Tryz.f108 0 (.i r) []) (Ah m0 (Ap (AW Tryz.f108) 0 [])) ⟨AM 19 [(0,.bools s_),(1,.bool v),(7,.i (s_.length:Int)),(8,.i x8)],[]⟩
theorem zK (B:Nat) (N:Yd 0) (s_:List Bool) (v:Bool):Al (Kn s_ v) (zJ · B N s_ v):=ia (fun _=>rfl) fun n AF pt r h=>by
 cases pt
 case l1 x8=>
  intro m0 AB;refine rd AB fun m0 AB=>?_
  revert r;apply gO;exact bi 9 (gi (bi 16 (lE AE [4] []) (gw 18 (lG AE [] (AF _ _ · m0 AB))))) (lE AE [4] [])
theorem zH {n:Nat} {s_:List Bool} {v:Bool} {r:Int} (h:W4 n s_ v=some r):EQ 108 [.bools s_,.bool v] [] (.i r) [] true:=by
 refine ot Tryz.func108 fun B N=>?_
 revert r;apply gO;exact lN AE [] ((zK B N s_ v n) _ _ · n Nat.le.refl)
def dh (n:Nat) (s_:List Int) (v:Int):Option Bool:=
 (Wx n s_ v).bind fun y1=>
  some (decide (y1>=0))
def MJ (n:Nat) (s_:List Int) (v:Int):Option Bool:=dh n s_ v
theorem pC {n:Nat} {s_:List Int} {v:Int} {r:Bool} (h:MJ n s_ v=some r):EQ 105 [.ints s_,.i v] [] (.bool r) [] true:=by
 unfold MJ dh at h;refine ot Tryz.func105 fun B N=>?_
 revert r;apply gO;exact cf zB [] fun _=>lE AE [4] []
inductive O3 where
 | l1 (x3:Int)
 | l2 (x3 x4:Int)
def Zj (n:Nat) (self:O3 -> Option Int) (g_:List (List Int)) (x3:Int):Option Int:=
 bif (decide (x3<(g_.length:Int))) then
  self (.l2 x3 0)
 else
  some 0
def Vf (n:Nat) (self:O3 -> Option Int) (g_:List (List Int)) (x3 x4:Int):Option Int:=
 if 0<=x3/\ x3<(g_.length:Int) then
  bif (decide (x4<(((g_.getD ((x3).toNat) []).length:Nat):Int))) then
   if 0<=x4/\ x4<(((g_.getD ((x3).toNat) []).length:Nat):Int) then
    bif (decide (((g_.getD ((x3).toNat) []).getD ((x4).toNat) 0)<0)) then
     some 120
    else
     bif (decide (((g_.getD ((x3).toNat) []).getD ((x4).toNat) 0)>=(g_.length:Int))) then
      some 120
     else
      bif (((g_.getD ((x3).toNat) []).getD ((x4).toNat) 0)==x3) then
       some 120
      else
       bif (decide (x4>0)) then
        if AG (x4-1)/\ (0<=(x4-1)/\ (x4-1)<(((g_.getD ((x3).toNat) []).length:Nat):Int)) then
         bif (decide (((g_.getD ((x3).toNat) []).getD (((x4-1)).toNat) 0)>=((g_.getD ((x3).toNat) []).getD ((x4).toNat) 0))) then
          some 120
         else
          if (0:Int)<=((g_.getD ((x3).toNat) []).getD ((x4).toNat) 0)/\ ((g_.getD ((x3).toNat) []).getD ((x4).toNat) 0)<(g_.length:Int) then
           (has n (g_.getD (((g_.getD ((x3).toNat) []).getD ((x4).toNat) 0).toNat) []) x3).bind fun y1=>
            bif (!y1) then
             some 120
            else
             if AG (x4+1) then
              self (.l2 x3 (x4+1))
             else none
          else none
        else none
       else
        if (0:Int)<=((g_.getD ((x3).toNat) []).getD ((x4).toNat) 0)/\ ((g_.getD ((x3).toNat) []).getD ((x4).toNat) 0)<(g_.length:Int) then
         (has n (g_.getD (((g_.getD ((x3).toNat) []).getD ((x4).toNat) 0).toNat) []) x3).bind fun y1=>
          bif (!y1) then
           some 120
          else
           if AG (x4+1) then
            self (.l2 x3 (x4+1))
           else none
        else none
   else none
  else
   if AG (x3+1) then
    self (.l1 (x3+1))
   else none
 else none
def i7 (n:Nat) (self:O3 -> Option Int) (g_:List (List Int)):Option Int:=
 bif (decide ((g_.length:Int)>256)) then
  some 120
 else
  self (.l1 0)
def IY (g_:List (List Int)):Nat -> O3 -> Option Int
 | 0,_=>none
 | n+1,.l1 x3=>Zj n (IY g_ n) g_ x3
 | n+1,.l2 x3 x4=>Vf n (IY g_ n) g_ x3 x4
def La (n:Nat) (g_:List (List Int)):Option Int:=i7 n (IY g_ n) g_
def uw (n B:Nat) (N:Yd 0) (g_:List (List Int)) (r:Int):O3 -> Prop
 | .l1 x3=>∀ m0:Nat,n<=m0 -> TW B N (FQ Tryz.f75 0 (.i r) []) (Ah m0 (Ap (AW Tryz.f75) 0 [])) ⟨AM 69 [(0,.sl 1 g_.length (Aw A8 g_)),(3,.i x3)],[]⟩
 | .l2 x3 x4=>∀ m0 m1:Nat,n<=m0 -> n<=m1 -> TW B N (FQ Tryz.f75 0 (.i r) []) (Ah m1 (Ap (AW Tryz.f75) 2 [m0])) ⟨AM 69 [(0,.sl 1 g_.length (Aw A8 g_)),(3,.i x3),(4,.i x4)],[]⟩
theorem ux (B:Nat) (N:Yd 0) (g_:List (List Int)):Al (IY g_) (uw · B N g_):=ia (fun _=>rfl) fun n AF pt r h=>by
 cases pt
 case l1 x3=>
  intro m0 AB;refine rd AB fun m0 AB=>?_
  revert r;apply gO;exact bi 12 (lN AE [] (AF _ _ · m0 n AB Nat.le.refl)) (lE AE [2] [])
 case l2 x3 x4=>
  intro m0 m1 AB AR;have AB:=zBZ AB;refine rd AR fun m1 AR=>?_
  revert r;apply gO;exact gn fun g0=>jg g0 (bi 21 (jg g0 (gi (bi 32 (lE AE [2] []) (bi 37 (lE AE [2] []) (bi 42 (lE AE [2] []) (bi 46 (jg g0 (gc (gw 53 (gi (bi 57 (lE AE [2] []) (gi (cf cv [] fun _=>bi 67 (lE AE [2] []) (gw 23 (lG AE [] (AF _ _ · m0 m1 AB AR)))))))))) (gi (cf cv [] fun _=>bi 67 (lE AE [2] []) (gw 23 (lG AE [] (AF _ _ · m0 m1 AB AR))))))))))) (gw 14 (lG AE [] (AF _ _ · m0 AB))))
theorem Zh {n:Nat} {g_:List (List Int)} {r:Int} (h:La n g_=some r):EQ 75 [.sl 1 g_.length (Aw A8 g_)] [] (.i r) [] true:=by
 refine ot Tryz.func75 fun B N=>?_
 revert r;apply gO;exact bi 8 (lE AE [2] []) (lN AE [] ((ux B N g_ n) _ _ · n Nat.le.refl))
inductive QG where
 | l1 (AT:Int)
 | l2 (x3:Int) (x4:List Int) (AT:Int) (BB:List Int) (J7 Co:Int)
def dQ (n:Nat) (self:QG -> Option Int) (g_:List (List Int)) (AT:Int):Option Int:=
 bif (decide (AT<(g_.length:Int))) then
  if 0<=AT/\ AT<(g_.length:Int) then
   self (.l2 AT (g_.getD ((AT).toNat) []) AT (g_.getD ((AT).toNat) []) (((g_.getD ((AT).toNat) []).length:Nat):Int) 0)
  else none
 else
  some 0
def Xe (n:Nat) (self:QG -> Option Int) (g_:List (List Int)) (x3:Int) (x4:List Int) (AT:Int) (BB:List Int) (J7 Co:Int):Option Int:=
 bif (decide (Co<J7)) then
  if 0<=Co/\ Co<(BB.length:Int) then
   bif (decide ((BB.getD ((Co).toNat) 0)<0)) then
    some 120
   else
    bif (decide ((BB.getD ((Co).toNat) 0)>=(g_.length:Int))) then
     some 120
    else
     bif ((BB.getD ((Co).toNat) 0)==x3) then
      some 120
     else
      bif (decide (Co>0)) then
       if AG (Co-1)/\ (0<=(Co-1)/\ (Co-1)<(x4.length:Int)) then
        bif (decide ((x4.getD (((Co-1)).toNat) 0)>=(BB.getD ((Co).toNat) 0))) then
         some 120
        else
         if 0<=(BB.getD ((Co).toNat) 0)/\ (BB.getD ((Co).toNat) 0)<(g_.length:Int) then
          (MJ n (g_.getD ((BB.getD ((Co).toNat) 0).toNat) []) x3).bind fun y1=>
           bif (!y1) then
            some 120
           else
            if AG (Co+1) then
             self (.l2 x3 x4 AT BB J7 (Co+1))
            else none
         else none
       else none
      else
       if 0<=(BB.getD ((Co).toNat) 0)/\ (BB.getD ((Co).toNat) 0)<(g_.length:Int) then
        (MJ n (g_.getD ((BB.getD ((Co).toNat) 0).toNat) []) x3).bind fun y1=>
         bif (!y1) then
          some 120
         else
          if AG (Co+1) then
           self (.l2 x3 x4 AT BB J7 (Co+1))
          else none
       else none
  else none
 else
  if AG (AT+1) then
   self (.l1 (AT+1))
  else none
def n8 (n:Nat) (self:QG -> Option Int) (g_:List (List Int)):Option Int:=
 bif (decide ((g_.length:Int)>256)) then
  some 120
 else
  self (.l1 0)
def I4 (g_:List (List Int)):Nat -> QG -> Option Int
 | 0,_=>none
 | n+1,.l1 AT=>dQ n (I4 g_ n) g_ AT
 | n+1,.l2 x3 x4 AT BB J7 Co=>Xe n (I4 g_ n) g_ x3 x4 AT BB J7 Co
def Tn (n:Nat) (g_:List (List Int)):Option Int:=n8 n (I4 g_ n) g_
def zCU (n B:Nat) (N:Yd 0) (g_:List (List Int)) (r:Int):QG -> Prop
 | .l1 AT=>∀ m0:Nat,n<=m0 -> TW B N (FQ Tryz.f78 0 (.i r) []) (Ah m0 (Ap (AW Tryz.f78) 0 [])) ⟨AM 61 [(0,.sl 1 g_.length (Aw A8 g_)),(10,.sl 1 g_.length (Aw A8 g_)),(11,.i (g_.length:Int)),(12,.i AT)],[]⟩
 | .l2 x3 x4 AT BB J7 Co=>∀ m0 m1:Nat,n<=m0 -> n<=m1 -> TW B N (FQ Tryz.f78 0 (.i r) []) (Ah m1 (Ap (AW Tryz.f78) 2 [m0])) ⟨AM 61 [(0,.sl 1 g_.length (Aw A8 g_)),(3,.i x3),(4,.ints x4),(10,.sl 1 g_.length (Aw A8 g_)),(11,.i (g_.length:Int)),(12,.i AT),(17,.ints BB),(18,.i J7),(19,.i Co)],[]⟩
theorem zCV (B:Nat) (N:Yd 0) (g_:List (List Int)):Al (I4 g_) (zCU · B N g_):=ia (fun _=>rfl) fun n AF pt r h=>by
 cases pt
 case l1 AT=>
  intro m0 AB;refine rd AB fun m0 AB=>?_
  revert r;apply gO;exact bi 13 (gi (lN AE [] (AF _ _ · m0 n AB Nat.le.refl))) (lE AE [2] [])
 case l2 x3 x4 AT BB J7 Co=>
  intro m0 m1 AB AR;have AB:=zBZ AB;refine rd AR fun m1 AR=>?_
  revert r;apply gO;exact bi 20 (gi (bi 25 (lE AE [2] []) (bi 30 (lE AE [2] []) (bi 35 (lE AE [2] []) (bi 39 (gc (gw 43 (gi (bi 47 (lE AE [2] []) (gi (cf pC [] fun _=>bi 57 (lE AE [2] []) (gw 59 (lG AE [] (AF _ _ · m0 m1 AB AR))))))))) (gi (cf pC [] fun _=>bi 57 (lE AE [2] []) (gw 59 (lG AE [] (AF _ _ · m0 m1 AB AR)))))))))) (gw 60 (lG AE [] (AF _ _ · m0 AB)))
theorem n7 {n:Nat} {g_:List (List Int)} {r:Int} (h:Tn n g_=some r):EQ 78 [.sl 1 g_.length (Aw A8 g_)] [] (.i r) [] true:=by
 refine ot Tryz.func78 fun B N=>?_
 revert r;apply gO;exact bi 9 (lE AE [2] []) (lN AE [] ((zCV B N g_ n) _ _ · n Nat.le.refl))
inductive Xv where
 | l1 (x3:Int)
def Xu (n:Nat) (self:Xv -> Option Bool) (q:AA) (x3:Int):Option Bool:=
 bif (decide (x3<(q.cons.length:Int))) then
  if 0<=x3/\ x3<(q.cons.length:Int) then
   bif (decide (((((q.cons.getD ((x3).toNat) default).cells).length:Nat):Int)>20)) then
    some false
   else
    bif (decide (((((q.cons.getD ((x3).toNat) default).runs).length:Nat):Int)>10)) then
     some false
    else
     if AG (x3+1) then
      self (.l1 (x3+1))
     else none
  else none
 else
  some true
def oN (n:Nat) (self:Xv -> Option Bool) (q:AA):Option Bool:=
 bif (decide (q.cells>16)) then
  some false
 else
  bif (decide (q.symbols>6)) then
   some false
  else
   bif (decide ((q.values.length:Int)>8)) then
    some false
   else
    bif (decide ((q.nbrs.length:Int)>20)) then
     some false
    else
     bif (decide ((q.cons.length:Int)>120)) then
      some false
     else
      self (.l1 0)
def Kw (q:AA):Nat -> Xv -> Option Bool
 | 0,_=>none
 | n+1,.l1 x3=>Xu n (Kw q n) q x3
def Xw (n:Nat) (q:AA):Option Bool:=oN n (Kw q n) q
def zC2 (n B:Nat) (N:Yd 0) (q:AA) (r:Bool):Xv -> Prop
 | .l1 x3=>∀ m0:Nat,n<=m0 -> TW B N (FQ Tryz.f34 0 (.bool r) []) (Ah m0 (Ap (AW Tryz.f34) 0 [])) ⟨AM 55 [(1,.ref 0 0),(3,.i x3)],[some (.cells (AD q))]⟩
theorem zC3 (B:Nat) (N:Yd 0) (q:AA):Al (Kw q) (zC2 · B N q):=ia (fun _=>rfl) fun n AF pt r h=>by
 cases pt
 case l1 x3=>
  intro m0 AB;refine rd AB fun m0 AB=>?_
  revert r;apply gO;exact bi 34 (gn fun g0=>jg g0 (bi 44 (lE AE [2] []) (jg g0 (bi 53 (lE AE [2] []) (gw 36 (lG AE [0] (AF _ _ · m0 AB))))))) (lE AE [2] [])
theorem zC1 {n:Nat} {q:AA} {r:Bool} (h:Xw n q=some r):EQ 34 [.agg 5 (L1 (AD q))] [] (.bool r) [] true:=by
 refine ot Tryz.func34 fun B N=>?_
 revert r;apply gO;exact bi 6 (lE AE [2] []) (bi 10 (lE AE [2] []) (bi 16 (lE AE [2] []) (bi 22 (lE AE [2] []) (bi 28 (lE AE [2] []) (lN AE [0] ((zC3 B N q n) _ _ · n Nat.le.refl))))))
end Go.Proofs.YtekkngkphejfcaaGreatDoor
namespace Go.Proofs.YtekkngkphejfcaaGreatDoor
open Go.RowKit
set_option maxRecDepth 100000
set_option maxHeartbeats 40000000
def fL (n:Nat) (v lo hi:Int):Option Bool:=
 bif (decide (v<lo)) then
  some true
 else
  some (decide (v>hi))
def Yn (n:Nat) (v lo hi:Int):Option Bool:=fL n v lo hi
theorem qX {n:Nat} {v lo hi:Int} {r:Bool} (h:Yn n v lo hi=some r):EQ 104 [.i v,.fp 1 (L1 [.i lo]),.fp 1 (L1 [.i hi])] [] (.bool r) [] true:=by
 refine ot Tryz.func104 fun B N=>?_
 revert r;apply gO;exact bi 7 (lE AE [4] []) (lE AE [4] [])
inductive Wt where
 | l1 (x8:Int)
def bP (n:Nat) (self:Wt -> Option Int) (l:List Int) (lo hi:Int) (x8:Int):Option Int:=
 bif (decide (x8<(l.length:Int))) then
  if 0<=x8/\ x8<(l.length:Int) then
   (Yn n (l.getD ((x8).toNat) 0) lo hi).bind fun y1=>
    bif y1 then
     some x8
    else
     if AG (x8+1) then
      self (.l1 (x8+1))
     else none
  else none
 else
  some (-1)
def mR (n:Nat) (self:Wt -> Option Int) (l:List Int) (lo hi:Int):Option Int:=
 self (.l1 0)
def Nj (l:List Int) (lo hi:Int):Nat -> Wt -> Option Int
 | 0,_=>none
 | n+1,.l1 x8=>bP n (Nj l lo hi n) l lo hi x8
def Wv (n:Nat) (l:List Int) (lo hi:Int):Option Int:=mR n (Nj l lo hi n) l lo hi
def yv (n B:Nat) (N:Yd 0) (l:List Int) (lo hi:Int) (r:Int):Wt -> Prop
 | .l1 x8=>∀ m0:Nat,n<=m0 -> TW B N (FQ Tryz.f52 0 (.i r) []) (Ah m0 (Ap (AW Tryz.f52) 0 [])) ⟨AM 19 [(0,.ints l),(1,.fn 104 2 (L1 [.fp 1 (L1 [.i lo]),.fp 1 (L1 [.i hi])])),(7,.i (l.length:Int)),(8,.i x8)],[]⟩
theorem yw (B:Nat) (N:Yd 0) (l:List Int) (lo hi:Int):Al (Nj l lo hi) (yv · B N l lo hi):=ia (fun _=>rfl) fun n AF pt r h=>by
 cases pt
 case l1 x8=>
  intro m0 AB;refine rd AB fun m0 AB=>?_
  revert r;apply gO;exact bi 9 (gi (cf qX [] fun _=>bi 16 (lE AE [4] []) (gw 18 (lG AE [] (AF _ _ · m0 AB))))) (lE AE [4] [])
theorem yt {n:Nat} {l:List Int} {lo hi:Int} {r:Int} (h:Wv n l lo hi=some r):EQ 52 [.ints l,.fn 104 2 (L1 [.fp 1 (L1 [.i lo]),.fp 1 (L1 [.i hi])])] [] (.i r) [] true:=by
 refine ot Tryz.func52 fun B N=>?_
 revert r;apply gO;exact lN AE [] ((yw B N l lo hi n) _ _ · n Nat.le.refl)
def dg (n:Nat) (l:List Int) (lo hi:Int):Option Bool:=
 (Wv n l lo hi).bind fun y1=>
  some (decide (y1>=0))
def YB (n:Nat) (l:List Int) (lo hi:Int):Option Bool:=dg n l lo hi
theorem zDh {n:Nat} {l:List Int} {lo hi:Int} {r:Bool} (h:YB n l lo hi=some r):EQ 45 [.ints l,.fn 104 2 (L1 [.fp 1 (L1 [.i lo]),.fp 1 (L1 [.i hi])])] [] (.bool r) [] true:=by
 unfold YB dg at h;refine ot Tryz.func45 fun B N=>?_
 revert r;apply gO;exact cf yt [] fun _=>lE AE [4] []
def aB (n:Nat) (l_:List Int) (lo hi:Int):Option Bool:=
 (YB n l_ lo hi).bind fun y1=>
  some (!y1)
def Lh (n:Nat) (l_:List Int) (lo hi:Int):Option Bool:=aB n l_ lo hi
theorem V3 {n:Nat} {l_:List Int} {lo hi:Int} {r:Bool} (h:Lh n l_ lo hi=some r):EQ 77 [.ints l_,.i lo,.i hi] [] (.bool r) [] true:=by
 unfold Lh aB at h;refine ot Tryz.func77 fun B N=>?_
 revert r;apply gO;exact cn fun y1 A1=>jc (sb [.ints l_,.fn 104 2 (L1 [.ref 0 0,.ref 1 0])] (zDh A1) [some (.cells [.i lo]),some (.cells [.i hi])] ⟨Ar.plain (by kernel_rfl),(Ar.fnL (l:=[.ref 0 0,.ref 1 0]) (l0:=[.fp 1 (L1 [.i lo]),.fp 1 (L1 [.i hi])]) ⟨(Ar.refL (l:=[.i lo]) (l0:=[.i lo]) rfl ⟨Ar.plain (by kernel_rfl),trivial⟩),(Ar.refL (l:=[.i hi]) (l0:=[.i hi]) rfl ⟨Ar.plain (by kernel_rfl),trivial⟩),trivial⟩),trivial⟩) (lE AE [6] [])
theorem tE:Af (Ax Tryz.f81 24) [([0,1,2,3,5,6,7,8],4),([],9),([10,11,12,13,14],15),([],16),([17,18,19,20,21,22,23,24,25,26],27)] [28,29] []:=by unfold Af;kernel_rfl
def DN:BJ:=fun i=>match i with
 | 24=>.ord [([0,1,2,3,5,6,7,8],4),([],9),([10,11,12,13,14],15),([],16),([17,18,19,20,21,22,23,24,25,26],27)] [28,29] []
 | _=>.no
def m7 (q:AA) (c_:AC):DH:=[some (.cells (AD q)),some (.cells (AH c_)),some (.ints ([c_.set,c_.other]:List Int)),some (.ints ([c_.lo,c_.hi]:List Int))]
inductive MA where
 | l1 (AJ:Int) (o2:List Bool)
 | l2
def Tu (n:Nat) (self:MA -> Option Bool) (q:AA) (c_:AC) (AJ:Int) (o2:List Bool):Option Bool:=
 bif (decide (AJ<(c_.cells.length:Int))) then
  if 0<=AJ/\ AJ<(c_.cells.length:Int) then
   bif (decide ((c_.cells.getD ((AJ).toNat) 0)<0)) then
    some false
   else
    bif (decide ((c_.cells.getD ((AJ).toNat) 0)>=q.cells)) then
     some false
    else
     if (0<=(c_.cells.getD ((AJ).toNat) 0)/\ (c_.cells.getD ((AJ).toNat) 0)<((256:Nat):Int))/\ 0+((c_.cells.getD ((AJ).toNat) 0).toNat)<o2.length then
      bif (o2.getD (0+((c_.cells.getD ((AJ).toNat) 0).toNat)) false) then
       some false
      else
       bif (decide (c_.kind>=8)) then
        bif ((c_.cells.getD ((AJ).toNat) 0) != AJ) then
         some false
        else
         if AG (AJ+1) then
          self (.l1 (AJ+1) (o2.set (0+((c_.cells.getD ((AJ).toNat) 0).toNat)) true))
         else none
       else
        if AG (AJ+1) then
         self (.l1 (AJ+1) (o2.set (0+((c_.cells.getD ((AJ).toNat) 0).toNat)) true))
        else none
     else none
  else none
 else
  bif (c_.kind==1) then
   self (.l2)
  else
   bif (c_.kind==2) then
    self (.l2)
   else
    bif (c_.kind==3) then
     self (.l2)
    else
     bif (c_.kind==4) then
      self (.l2)
     else
      bif (c_.kind==5) then
       self (.l2)
      else
       bif (c_.kind==6) then
        bif ((c_.cells.length:Int) != 2) then
         some false
        else
         self (.l2)
       else
        bif (c_.kind==7) then
         bif ((c_.cells.length:Int) != 2) then
          some false
         else
          self (.l2)
        else
         bif (c_.kind==8) then
          bif ((c_.cells.length:Int) != q.cells) then
           some false
          else
           self (.l2)
         else
          bif (c_.kind==9) then
           bif ((c_.cells.length:Int) != q.cells) then
            some false
           else
            self (.l2)
          else
           some false
def Xp (n:Nat) (self:MA -> Option Bool) (q:AA) (c_:AC):Option Bool:=
 if (0<=q.symbols/\ q.symbols<=(IntKind.i64.bits:Int))/\ AG ((IntKind.i64.wrap (1*2 ^ (q.symbols).toNat))-1) then
  (Lh n ([c_.set,c_.other]:List Int) 0 ((IntKind.i64.wrap (1*2 ^ (q.symbols).toNat))-1)).bind fun y1=>
   bif y1 then
    (Lh n ([c_.lo,c_.hi]:List Int) 0 65536).bind fun y2=>
     bif y2 then
      bif (decide ((c_.runs.length:Int)<=8)) then
       (Lh n c_.runs 1 256).bind fun y3=>
        some y3
      else
       some false
     else
      some false
   else
    some false
 else none
def oK (n:Nat) (self:MA -> Option Bool) (q:AA) (c_:AC):Option Bool:=
 self (.l1 0 (List.replicate 256 false))
def QK (q:AA) (c_:AC):Nat -> MA -> Option Bool
 | 0,_=>none
 | n+1,.l1 AJ o2=>Tu n (QK q c_ n) q c_ AJ o2
 | n+1,.l2=>Xp n (QK q c_ n) q c_
def Xq (n:Nat) (q:AA) (c_:AC):Option Bool:=oK n (QK q c_ n) q c_
def zCs (n B:Nat) (N:Yd 0) (q:AA) (c_:AC) (r:Bool):MA -> Prop
 | .l1 AJ o2=>∀ m0:Nat,n<=m0 -> TW B N (FQ Tryz.f81 0 (.bool r) []) (Ah m0 (Ap (AW Tryz.f81) 0 [])) ⟨AM 95 [(2,.ref 0 0),(3,.ref 1 0),(5,.mp 2 1 0 0),(9,.ints c_.cells),(10,.i (c_.cells.length:Int)),(11,.i AJ)],[some (.cells (AD q)),some (.cells (AH c_)),some (.bools o2)]⟩
 | .l2=>TW B N (FQ Tryz.f81 0 (.bool r) []) (Dl (AW Tryz.f81) 24 []) ⟨AM 95 [(2,.ref 0 0),(3,.ref 1 0)],[some (.cells (AD q)),some (.cells (AH c_))]⟩
theorem zCt (B:Nat) (N:Yd 0) (q:AA) (c_:AC):Al (QK q c_) (zCs · B N q c_):=ia (fun _=>rfl) fun n AF pt r h=>by
 cases pt
 case l1 AJ o2=>
  intro m0 AB;refine rd AB fun m0 AB=>?_
  revert r;apply gO;exact bi 12 (gi (bi 17 (lE (AK 24 DN) [4] []) (bi 22 (lE (AK 24 DN) [4] []) (gc (gn fun g1=>jg g1 (gn fun g2=>jg g2 (bi 27 (lE (AK 24 DN) [4] []) (bi 32 (bi 36 (lE (AK 24 DN) [4] []) (jg g1 (jg g2 (gw 41 (lG (AK 24 DN) [0,1,2] (AF _ _ · m0 AB)))))) (jg g1 (jg g2 (gw 41 (lG (AK 24 DN) [0,1,2] (AF _ _ · m0 AB))))))))))))) (bi 45 (lG (AK 24 DN) [0,1] (AF _ _ ·)) (bi 46 (lG (AK 24 DN) [0,1] (AF _ _ ·)) (bi 47 (lG (AK 24 DN) [0,1] (AF _ _ ·)) (bi 48 (lG (AK 24 DN) [0,1] (AF _ _ ·)) (bi 49 (lG (AK 24 DN) [0,1] (AF _ _ ·)) (bi 51 (bi 56 (lE (AK 24 DN) [4] []) (lG (AK 24 DN) [0,1] (AF _ _ ·))) (bi 52 (bi 56 (lE (AK 24 DN) [4] []) (lG (AK 24 DN) [0,1] (AF _ _ ·))) (bi 58 (bi 65 (lE (AK 24 DN) [4] []) (lG (AK 24 DN) [0,1] (AF _ _ ·))) (bi 59 (bi 65 (lE (AK 24 DN) [4] []) (lG (AK 24 DN) [0,1] (AF _ _ ·))) (lE (AK 24 DN) [4] []))))))))))
 case l2=>
  revert r;apply gO;exact jg tE (gc (gi (gw 74 (cn fun y1 A1=>jc (sb [.msl 2 1 0 2,.i 0,.i ((IntKind.i64.wrap (1*2 ^ (q.symbols).toNat))-1)] (V3 A1) [some (.cells (AD q)),some (.cells (AH c_)),some (.ints ([c_.set,c_.other]:List Int))] ⟨Ar.ints rfl (Eq.refl 2),Ar.plain (by kernel_rfl),Ar.plain (by kernel_rfl),trivial⟩) (bi 75 (cn fun y2 CF=>jc (sb [.msl 3 1 0 2,.i 0,.i 65536] (V3 CF) (m7 q c_) ⟨Ar.ints rfl (Eq.refl 2),Ar.plain (by kernel_rfl),Ar.plain (by kernel_rfl),trivial⟩) (bi 82 (bi 88 (cf V3 (m7 q c_) fun _=>lE DN [4] []) (lE DN [4] [])) (lE DN [4] []))) (lE DN [4] []))))))
theorem zCq {n:Nat} {q:AA} {c_:AC} {r:Bool} (h:Xq n q c_=some r):EQ 81 [.agg 5 (L1 (AD q)),.agg 9 (L1 (AH c_))] [] (.bool r) [] true:=by
 refine ot Tryz.func81 fun B N=>?_
 revert r;apply gO;exact lN (AK 24 DN) [0,1,2] ((zCt B N q c_ n) _ _ · n Nat.le.refl)
def Yu (n:Nat) (c:AC) (q:AA):Option Bool:=
 (Xq n q c).bind fun y1=>
  some (!y1)
def Uu (n:Nat) (c:AC) (q:AA):Option Bool:=Yu n c q
theorem ql {n:Nat} {c:AC} {q:AA} {r:Bool} (h:Uu n c q=some r):EQ 80 [.agg 9 (L1 (AH c)),.fp 5 (L1 (AD q))] [] (.bool r) [] true:=by
 unfold Uu Yu at h;refine ot Tryz.func80 fun B N=>?_
 revert r;apply gO;exact cf zCq [some (.cells (AH c))] fun _=>lE AE [3] []
inductive Wr where
 | l1 (x8:Int)
def Wq (n:Nat) (self:Wr -> Option Int) (l:List AC) (q:AA) (x8:Int):Option Int:=
 bif (decide (x8<(l.length:Int))) then
  if 0<=x8/\ x8<(l.length:Int) then
   (Uu n (l.getD ((x8).toNat) default) q).bind fun y1=>
    bif y1 then
     some x8
    else
     if AG (x8+1) then
      self (.l1 (x8+1))
     else none
  else none
 else
  some (-1)
def mQ (n:Nat) (self:Wr -> Option Int) (l:List AC) (q:AA):Option Int:=
 self (.l1 0)
def Lr (l:List AC) (q:AA):Nat -> Wr -> Option Int
 | 0,_=>none
 | n+1,.l1 x8=>Wq n (Lr l q n) l q x8
def Ws (n:Nat) (l:List AC) (q:AA):Option Int:=mQ n (Lr l q n) l q
def yq (n B:Nat) (N:Yd 0) (l:List AC) (q:AA) (r:Int):Wr -> Prop
 | .l1 x8=>∀ m0:Nat,n<=m0 -> TW B N (FQ Tryz.f106 0 (.i r) []) (Ah m0 (Ap (AW Tryz.f106) 0 [])) ⟨AM 19 [(0,.sl 9 l.length (Aw AH l)),(1,.fn 80 1 (L1 [.fp 5 (L1 (AD q))])),(7,.i (l.length:Int)),(8,.i x8)],[]⟩
theorem yr (B:Nat) (N:Yd 0) (l:List AC) (q:AA):Al (Lr l q) (yq · B N l q):=ia (fun _=>rfl) fun n AF pt r h=>by
 cases pt
 case l1 x8=>
  intro m0 AB;refine rd AB fun m0 AB=>?_
  revert r;apply gO;exact bi 9 (gi (cf ql [] fun _=>bi 16 (lE AE [4] []) (gw 18 (lG AE [] (AF _ _ · m0 AB))))) (lE AE [4] [])
theorem yp {n:Nat} {l:List AC} {q:AA} {r:Int} (h:Ws n l q=some r):EQ 106 [.sl 9 l.length (Aw AH l),.fn 80 1 (L1 [.fp 5 (L1 (AD q))])] [] (.i r) [] true:=by
 refine ot Tryz.func106 fun B N=>?_
 revert r;apply gO;exact lN AE [] ((yr B N l q n) _ _ · n Nat.le.refl)
def df (n:Nat) (l:List AC) (q:AA):Option Bool:=
 (Ws n l q).bind fun y1=>
  some (decide (y1>=0))
def X9 (n:Nat) (l:List AC) (q:AA):Option Bool:=df n l q
theorem zDg {n:Nat} {l:List AC} {q:AA} {r:Bool} (h:X9 n l q=some r):EQ 79 [.sl 9 l.length (Aw AH l),.fn 80 1 (L1 [.fp 5 (L1 (AD q))])] [] (.bool r) [] true:=by
 unfold X9 df at h;refine ot Tryz.func79 fun B N=>?_
 revert r;apply gO;exact cf yp [] fun _=>lE AE [4] []
def fQ (n:Nat) (q:AA):Option Int:=
 bif (decide (q.cells<1)) then
  some 191
 else
  bif (decide (q.cells>256)) then
   some 191
  else
   bif (decide (q.symbols<1)) then
    some 191
   else
    bif (decide (q.symbols>16)) then
     some 191
    else
     bif ((q.values.length:Int) != q.symbols) then
      some 191
     else
      (Lh n q.values 0 99).bind fun y1=>
       bif (!y1) then
        some 191
       else
        bif ((q.nbrs.length:Int) != q.cells) then
         some 191
        else
         (Tn n q.nbrs).bind fun y2=>
          bif (y2 != 0) then
           some 191
          else
           bif (decide ((q.cons.length:Int)>4096)) then
            some 191
           else
            (X9 n q.cons q).bind fun y3=>
             bif y3 then
              some 191
             else
              some 0
def valid (n:Nat) (q:AA):Option Int:=fQ n q
theorem fP {n:Nat} {q:AA} {r:Int} (h:valid n q=some r):EQ 56 [.agg 5 (L1 (AD q))] [] (.i r) [] true:=by
 refine ot Tryz.func56 fun B N=>?_
 revert r;apply gO;exact bi 5 (lE AE [2] []) (bi 9 (lE AE [2] []) (bi 14 (lE AE [2] []) (bi 19 (lE AE [2] []) (bi 27 (lE AE [2] []) (cf V3 [some (.cells (AD q))] fun _=>bi 33 (lE AE [2] []) (bi 40 (lE AE [2] []) (cf n7 [some (.cells (AD q))] fun _=>bi 45 (lE AE [2] []) (bi 51 (lE AE [2] []) (cn fun y3 TH=>jc (sb [.sl 9 q.cons.length (Aw AH q.cons),.fn 80 1 (L1 [.ref 0 0])] (zDg TH) [some (.cells (AD q))] ⟨Ar.plain (by kernel_rfl),(Ar.fnL (l:=[.ref 0 0]) (l0:=[.fp 5 (L1 (AD q))]) ⟨(Ar.refL (l:=(AD q)) (l0:=(AD q)) rfl ⟨Ar.plain (by kernel_rfl),Ar.plain (by kernel_rfl),Ar.plain (by kernel_rfl),Ar.plain (by kernel_rfl),Ar.plain (by kernel_rfl),trivial⟩),trivial⟩),trivial⟩) (bi 56 (lE AE [2] []) (lE AE [2] [])))))))))))
def av (n:Nat) (q:AA) (i:Int):Option (Int×Int):=
 (valid n q).bind fun y1=>
  bif (y1 != 0) then
   some (0,y1)
  else
   bif (decide (i<0)) then
    some (0,260)
   else
    bif (decide (i>=(q.cons.length:Int))) then
     some (0,260)
    else
     if (0<=i/\ i<(q.cons.length:Int))/\ ((0:Int)<=((q.cons.getD ((i).toNat) default).kind)/\ ((q.cons.getD ((i).toNat) default).kind)<((10:Nat):Int)) then
      some (([0,1,1,2,2,3,1,1,4,4]:List Int).getD ((q.cons.getD ((i).toNat) default).kind).toNat 0,0)
     else none
def Nc (n:Nat) (q:AA) (i:Int):Option (Int×Int):=av n q i
theorem ar {n:Nat} {q:AA} {i:Int} {r:Int×Int} (h:Nc n q i=some r):EQ 32 [.agg 5 (L1 (AD q)),.i i] [] (.tup 2 (L1 [.i r.1,.i r.2])) [] true:=by
 unfold Nc av at h;refine ot Tryz.func32 fun B N=>?_
 revert r;apply gO;exact cf fP [some (.cells (AD q))] fun _=>bi 10 (lE AE [4,5] []) (bi 13 (lE AE [4,5] []) (bi 19 (lE AE [4,5] []) (gc (gi (gn fun g1=>jg g1 (jo 28 (AS.ixI [0,1,1,2,2,3,1,1,4,4] rfl g1) (lE AE [4,5] [])))))))
inductive VY where
 | l1 (x7:Int)
def Rm (n:Nat) (self:VY -> Option Bool) (c_:AC) (cells symbols:Int) (x7:Int):Option Bool:=
 bif (decide (x7<(c_.cells.length:Int))) then
  bif (c_.kind==8) then
   if 0<=x7/\ x7<(c_.cells.length:Int) then
    bif ((c_.cells.getD ((x7).toNat) 0) != x7) then
     some false
    else
     if AG (x7+1) then
      self (.l1 (x7+1))
     else none
   else none
  else
   bif (c_.kind==9) then
    if 0<=x7/\ x7<(c_.cells.length:Int) then
     bif ((c_.cells.getD ((x7).toNat) 0) != x7) then
      some false
     else
      if AG (x7+1) then
       self (.l1 (x7+1))
      else none
    else none
   else
    if AG (x7+1) then
     self (.l1 (x7+1))
    else none
 else
  if (0<=symbols/\ symbols<=(IntKind.i64.bits:Int))/\ AG ((IntKind.i64.wrap (1*2 ^ (symbols).toNat))-1) then
   (MM n ([c_.set,c_.other]:List Int) 0 ((IntKind.i64.wrap (1*2 ^ (symbols).toNat))-1)).bind fun y1=>
    bif y1 then
     (MM n ([c_.lo,c_.hi]:List Int) 0 65536).bind fun y2=>
      bif y2 then
       bif (decide ((c_.runs.length:Int)<=8)) then
        (MM n c_.runs 1 256).bind fun y3=>
         some y3
       else
        some false
      else
       some false
    else
     some false
  else none
def ix (n:Nat) (self:VY -> Option Bool) (c_:AC) (cells symbols:Int):Option Bool:=
 bif (decide (c_.kind<1)) then
  some false
 else
  bif (decide (c_.kind>9)) then
   some false
  else
   bif (decide ((c_.cells.length:Int)>cells)) then
    some false
   else
    if AG (cells-1) then
     (MM n c_.cells 0 (cells-1)).bind fun y1=>
      bif (!y1) then
       some false
      else
       (X5 n c_.cells).bind fun y2=>
        bif (!y2) then
         some false
        else
         bif (c_.kind==6) then
          bif ((c_.cells.length:Int) != 2) then
           some false
          else
           bif (c_.kind==8) then
            bif ((c_.cells.length:Int) != cells) then
             some false
            else
             self (.l1 0)
           else
            bif (c_.kind==9) then
             bif ((c_.cells.length:Int) != cells) then
              some false
             else
              self (.l1 0)
            else
             self (.l1 0)
         else
          bif (c_.kind==7) then
           bif ((c_.cells.length:Int) != 2) then
            some false
           else
            bif (c_.kind==8) then
             bif ((c_.cells.length:Int) != cells) then
              some false
             else
              self (.l1 0)
            else
             bif (c_.kind==9) then
              bif ((c_.cells.length:Int) != cells) then
               some false
              else
               self (.l1 0)
             else
              self (.l1 0)
          else
           bif (c_.kind==8) then
            bif ((c_.cells.length:Int) != cells) then
             some false
            else
             self (.l1 0)
           else
            bif (c_.kind==9) then
             bif ((c_.cells.length:Int) != cells) then
              some false
             else
              self (.l1 0)
            else
             self (.l1 0)
    else none
def LY (c_:AC) (cells symbols:Int):Nat -> VY -> Option Bool
 | 0,_=>none
 | n+1,.l1 x7=>Rm n (LY c_ cells symbols n) c_ cells symbols x7
def Va (n:Nat) (c_:AC) (cells symbols:Int):Option Bool:=ix n (LY c_ cells symbols n) c_ cells symbols
def uY (n B:Nat) (N:Yd 0) (c_:AC) (cells symbols:Int) (r:Bool):VY -> Prop
 | .l1 x7=>∀ m0:Nat,n<=m0 -> TW B N (FQ Tryz.f76 0 (.bool r) []) (Ah m0 (Ap (AW Tryz.f76) 0 [])) ⟨AM 120 [(2,.i symbols),(3,.ref 0 0),(7,.i x7)],[some (.cells (AH c_))]⟩
theorem uZ (B:Nat) (N:Yd 0) (c_:AC) (cells symbols:Int):Al (LY c_ cells symbols) (uY · B N c_ cells symbols):=ia (fun _=>rfl) fun n AF pt r h=>by
 cases pt
 case l1 x7=>
  intro m0 AB;refine rd AB fun m0 AB=>?_
  revert r;apply gO;exact bi 71 (bi 76 (gi (bi 89 (lE AE [6] []) (gw 73 (lG AE [0] (AF _ _ · m0 AB))))) (bi 80 (gi (bi 89 (lE AE [6] []) (gw 73 (lG AE [0] (AF _ _ · m0 AB))))) (gw 73 (lG AE [0] (AF _ _ · m0 AB))))) (gc (gi (gw 93 (cn fun y1 A1=>jc (sb [.msl 1 1 0 2,.i 0,.i ((IntKind.i64.wrap (1*2 ^ (symbols).toNat))-1)] (UQ A1) [some (.cells (AH c_)),some (.ints ([c_.set,c_.other]:List Int))] ⟨Ar.ints rfl (Eq.refl 2),Ar.plain (by kernel_rfl),Ar.plain (by kernel_rfl),trivial⟩) (bi 100 (cn fun y2 CF=>jc (sb [.msl 2 1 0 2,.i 0,.i 65536] (UQ CF) [some (.cells (AH c_)),some (.ints ([c_.set,c_.other]:List Int)),some (.ints ([c_.lo,c_.hi]:List Int))] ⟨Ar.ints rfl (Eq.refl 2),Ar.plain (by kernel_rfl),Ar.plain (by kernel_rfl),trivial⟩) (bi 107 (bi 113 (cf UQ [some (.cells (AH c_)),some (.ints ([c_.set,c_.other]:List Int)),some (.ints ([c_.lo,c_.hi]:List Int))] fun _=>lE AE [6] []) (lE AE [6] [])) (lE AE [6] []))) (lE AE [6] []))))))
theorem uU {n:Nat} {c_:AC} {cells symbols:Int} {r:Bool} (h:Va n c_ cells symbols=some r):EQ 76 [.agg 9 (L1 (AH c_)),.i cells,.i symbols] [] (.bool r) [] true:=by
 have AF:=fun B N=>(uZ B N c_ cells symbols n)
 refine ot Tryz.func76 fun B N=>?_
 revert r;apply gO;exact bi 11 (lE AE [6] []) (bi 15 (lE AE [6] []) (bi 22 (lE AE [6] []) (gw 28 (cf UQ [some (.cells (AH c_))] fun _=>bi 30 (lE AE [6] []) (cf zDI [some (.cells (AH c_))] fun _=>bi 36 (lE AE [6] []) (bi 40 (bi 50 (lE AE [6] []) (bi 54 (bi 65 (lE AE [6] []) (lN AE [0] ((AF B N) _ _ · n Nat.le.refl))) (bi 58 (bi 65 (lE AE [6] []) (lN AE [0] ((AF B N) _ _ · n Nat.le.refl))) (lN AE [0] ((AF B N) _ _ · n Nat.le.refl))))) (bi 44 (bi 50 (lE AE [6] []) (bi 54 (bi 65 (lE AE [6] []) (lN AE [0] ((AF B N) _ _ · n Nat.le.refl))) (bi 58 (bi 65 (lE AE [6] []) (lN AE [0] ((AF B N) _ _ · n Nat.le.refl))) (lN AE [0] ((AF B N) _ _ · n Nat.le.refl))))) (bi 54 (bi 65 (lE AE [6] []) (lN AE [0] ((AF B N) _ _ · n Nat.le.refl))) (bi 58 (bi 65 (lE AE [6] []) (lN AE [0] ((AF B N) _ _ · n Nat.le.refl))) (lN AE [0] ((AF B N) _ _ · n Nat.le.refl)))))))))))
theorem sB:Af (Ax Tryz.f54 8) [([0,1,2,3,4,5,6,7,8],9)] [10] []:=by unfold Af;kernel_rfl
def G7:BJ:=fun i=>match i with
 | 8=>.ord [([0,1,2,3,4,5,6,7,8],9)] [10] []
 | _=>.no
inductive VH where
 | l1 (x3:Int)
def VG (n:Nat) (self:VH -> Option Int) (q:AA) (x3:Int):Option Int:=
 bif (decide (x3<(q.cons.length:Int))) then
  if 0<=x3/\ x3<(q.cons.length:Int) then
   (Va n (q.cons.getD ((x3).toNat) default) q.cells q.symbols).bind fun y1=>
    bif (!y1) then
     some 191
    else
     if AG (x3+1) then
      self (.l1 (x3+1))
     else none
  else none
 else
  some 0
def iL (n:Nat) (self:VH -> Option Int) (q:AA):Option Int:=
 bif (decide (q.cells<1)) then
  some 191
 else
  bif (decide (q.cells>256)) then
   some 191
  else
   bif (decide (q.symbols<1)) then
    some 191
   else
    bif (decide (q.symbols>16)) then
     some 191
    else
     bif ((q.values.length:Int) != q.symbols) then
      some 191
     else
      (MM n q.values 0 99).bind fun y1=>
       bif (!y1) then
        some 191
       else
        bif ((q.nbrs.length:Int) != q.cells) then
         some 191
        else
         (La n q.nbrs).bind fun y2=>
          bif (y2 != 0) then
           some 191
          else
           bif (decide ((q.cons.length:Int)>4096)) then
            some 191
           else
            self (.l1 0)
def LP (q:AA):Nat -> VH -> Option Int
 | 0,_=>none
 | n+1,.l1 x3=>VG n (LP q n) q x3
def VI (n:Nat) (q:AA):Option Int:=iL n (LP q n) q
def tT (n B:Nat) (N:Yd 0) (q:AA) (r:Int):VH -> Prop
 | .l1 x3=>∀ m0:Nat,n<=m0 -> TW B N (FQ Tryz.f54 0 (.i r) []) (Ah m0 (Ap (AW Tryz.f54) 0 [])) ⟨AM 72 [(1,.ref 0 0),(3,.i x3)],[some (.cells (AD q))]⟩
theorem tU (B:Nat) (N:Yd 0) (q:AA):Al (LP q) (tT · B N q):=ia (fun _=>rfl) fun n AF pt r h=>by
 cases pt
 case l1 x3=>
  intro m0 AB;refine rd AB fun m0 AB=>?_
  revert r;apply gO;exact bi 58 (jg sB (gi (cf uU [some (.cells (AD q))] fun _=>bi 71 (lE G7 [2] []) (gw 60 (lG G7 [0] (AF _ _ · m0 AB)))))) (lE G7 [2] [])
theorem tQ {n:Nat} {q:AA} {r:Int} (h:VI n q=some r):EQ 54 [.agg 5 (L1 (AD q))] [] (.i r) [] true:=by
 refine ot Tryz.func54 fun B N=>?_
 revert r;apply gO;exact bi 6 (lE G7 [2] []) (bi 10 (lE G7 [2] []) (bi 15 (lE G7 [2] []) (bi 20 (lE G7 [2] []) (bi 28 (lE G7 [2] []) (cf UQ [some (.cells (AD q))] fun _=>bi 34 (lE G7 [2] []) (bi 41 (lE G7 [2] []) (cf Zh [some (.cells (AD q))] fun _=>bi 46 (lE G7 [2] []) (bi 52 (lE G7 [2] []) (lN G7 [0] ((tU B N q n) _ _ · n Nat.le.refl))))))))))
def dT (n:Nat) (q:AA) (pos:List Int):Option Bool:=
 (Xw n q).bind fun y1=>
  bif y1 then
   some (decide ((pos.length:Int)<=20))
  else
   some false
def Tv (n:Nat) (q:AA) (pos:List Int):Option Bool:=dT n q pos
theorem zCz {n:Nat} {q:AA} {pos:List Int} {r:Bool} (h:Tv n q pos=some r):EQ 8 [.agg 5 (L1 (AD q)),.ints pos] [] (.bool r) [] true:=by
 unfold Tv dT at h;refine ot Tryz.func8 fun B N=>?_
 revert r;apply gO;exact cf zC1 [some (.cells (AD q))] fun _=>bi 6 (lE AE [4] []) (lE AE [4] [])
end Go.Proofs.YtekkngkphejfcaaGreatDoor
namespace Go.Proofs.YtekkngkphejfcaaGreatDoor
abbrev zAA:=@decide_eq_false
abbrev zAB:=@Int.toNat_natCast
abbrev zAD:=@cond_false
abbrev zBA:=@cond_true
abbrev zB0:=@List.getElem_mem
abbrev zB4:=@beq_eq_false_iff_ne
abbrev zCN:=@Bool.not_false
abbrev zE1:=@decide_eq_false_iff_not
abbrev zE2:=@Int.natCast_nonneg
abbrev zFH:=@decide_true
abbrev zFb:=@Bool.or_false
abbrev zFf:=@Int.eq_ofNat_of_zero_le
abbrev zFk:=@List.pairwise_iff_getElem
abbrev zFm:=@and_self
abbrev zFw:=@Bool.eq_false_iff
abbrev zFx:=@List.range_eq_range'
abbrev zFy:=@List.exists_of_findSome?_eq_some
abbrev zFz:=@Bool.true_or
abbrev zGE:=@List.findSome?_eq_none_iff
abbrev zGQ:=@List.mem_take_iff_getElem
abbrev zGT:=@List.length_erase_of_mem
abbrev zGn:=@List.range'_succ
abbrev zGr:=@Bool.or_eq_false_iff
end Go.Proofs.YtekkngkphejfcaaGreatDoor
namespace Go.Proofs.YtekkngkphejfcaaGreatDoor
def Im (lo hi:Int) (n:Int):Bool:=decide (lo<=n)&&decide (n<=hi)
def CW (xs:List Int) (lo hi:Int):Bool:=xs.all (Im lo hi)
def FN (g:List (List Int)) (i:Nat) (l:List Int) (k:Nat):Bool:=
 let n:=l.getD k 0
 decide (0<=n)&&decide (n<g.length)&&(n != i)&&(!decide (0<k)||decide (l.getD (k-1) 0<n))&&(g.getD n.toNat []).contains (i:Int)
def Hp (g:List (List Int)) (i:Nat) (l:List Int):Bool:=(List.range l.length).all (FN g i l)
def I1 (g:List (List Int)):Bool:=decide (g.length<=256)&&(List.range g.length).all fun i=>Hp g i (g.getD i [])
def OQ (n kind:Int) (cells:List Int) (i:Nat):Bool:=
 let x:=cells.getD i 0
 decide (0<=x)&&decide (x<n)&&!(cells.take i).contains x&&(!decide (8<=kind)||x==(i:Int))
def YK (n kind:Int) (cells:List Int):Bool:=(List.range cells.length).all (OQ n kind cells)
def Fi (n kind:Int) (len:Nat):Bool:=
 (decide (1<=kind)&&decide (kind<=5))||((kind==6||kind==7)&&len==2)||((kind==8||kind==9)&&(len:Int)==n)
def DA (q:AA) (c:AC):Bool:=
 YK q.cells c.kind c.cells&&Fi q.cells c.kind c.cells.length&&
 CW [c.set,c.other] 0 (2 ^ q.symbols.toNat-1)&&CW [c.lo,c.hi] 0 65536&&decide (c.runs.length<=8)&&CW c.runs 1 256
def NT (l:List Int):Bool:=(List.range l.length).all fun i=>!(l.take i).contains (l.getD i 0)
def VZ (c:AC) (n sy:Int):Bool:=
 (decide (1<=c.kind)&&decide (c.kind<=9))&&decide ((c.cells.length:Int)<=n)&&CW c.cells 0 (n-1)&&NT c.cells&&
 (!(c.kind==6||c.kind==7)||c.cells.length==2)&&(!(c.kind==8||c.kind==9)||((c.cells.length:Int)==n))&&
 (!(c.kind==8||c.kind==9)||(List.range c.cells.length).all fun i=>c.cells.getD i 0==(i:Int))&&
 CW [c.set,c.other] 0 (2 ^ sy.toNat-1)&&CW [c.lo,c.hi] 0 65536&&decide (c.runs.length<=8)&&CW c.runs 1 256
theorem PP: ∀ (n:Nat) (l:List Int),l.Nodup -> (∀ x∈l,0<=x/\ x<(n:Int)) -> l.length<=n
 | 0,l,_,h=>by
  cases l with
  | nil=>simp
  | cons a l=>have:=h a (by simp);omega
 | n+1,l,hd,h=>by
  have h1:(l.erase (n:Int)).length<=n:=PP n _ (hd.erase _) (fun x hx=>by
   have:=hd.mem_erase_iff.1 hx;have h2:=h x this.2;have h3:=this.1;omega)
  by_cases hm:(n:Int)∈l
  ·have:=zGT hm;omega
  ·rw [List.erase_of_not_mem hm] at h1;omega
theorem lB {l:List Int}:NT l=true↔l.Nodup:=by
 unfold NT List.Nodup;rw [zBT,zFk];constructor
 ·intro h i j hi hj TY e;have:=h j (by simpa using hj);simp only [u8,zBD hj,zFs,zBh] at this;rw [zFw,ne_eq,zFZ,zGQ] at this;exact this ⟨i,by omega,e⟩
 ·intro h i hi;have A5:i<l.length:=by simpa using hi
  simp only [u8,zBD A5,zFs,zBh];rw [zFw,ne_eq,zFZ,zGQ];rintro ⟨j,hj,e⟩;exact h j i (by omega) A5 (by omega) e
theorem Qq {l:List Int} {lo hi:Int}:CW l lo hi=true↔∀ x∈l,lo<=x/\ x<=hi:=by
 unfold CW;simp [Im]
theorem dq {n kind:Int} {cells:List Int}:YK n kind cells=true↔(∀ x∈cells,0<=x/\ x<n)/\ cells.Nodup/\ (8<=kind -> ∀ j,j<cells.length -> cells.getD j 0=(j:Int)):=by
 rw [←lB];unfold YK NT OQ;simp only [zBT,zBc,zBE,zCK,zBg,zBh,zBf,zE1];constructor
 ·intro h;refine ⟨fun x hx=>?_,fun j hj=>(h j hj).1.2,fun h8 j hj=>?_⟩
  ·obtain ⟨j,hj,rfl⟩:=zEz hx;have:=(h j hj).1.1;simpa [hj] using this
  ·rcases (h j hj).2 with h' | h'
   ·exact absurd h8 h'
   ·exact h'
 ·rintro ⟨h1,h2,h3⟩ j hj;have hx:=h1 _ (zB0 hj);refine ⟨⟨by simpa [hj] using hx,h2 j hj⟩,?_⟩
  by_cases h8:8<=kind
  ·exact .inr (h3 h8 j hj)
  ·exact .inl h8
theorem uX (q:AA) (c:AC) (h1:1<=q.cells):VZ c q.cells q.symbols=DA q c:=by
 rw [zCM];unfold VZ DA;simp only [zBE,dq,lB,Qq (l:=c.cells),zBg,zBh,zGr,zBf,zB4,zCK,zBT,zBc,Fi];constructor
 ·rintro ⟨⟨⟨⟨⟨⟨⟨⟨⟨⟨⟨k1,k2⟩,k3⟩,k4⟩,k5⟩,k6⟩,k7⟩,k8⟩,k9⟩,bE⟩,bD⟩,bC⟩;refine ⟨⟨⟨⟨⟨⟨fun x hx=>⟨(k4 x hx).1,by have:=(k4 x hx).2;omega⟩,k5,fun h8=>?_⟩,?_⟩,k9⟩,bE⟩,bD⟩,bC⟩
  ·rcases k8 with h | h
   ·omega
   ·exact h
  ·rcases k6 with h6 | h6 <;> rcases k7 with h7 | h7
   ·left;left;omega
   ·by_cases h:c.kind=8∨c.kind=9
    ·right;exact ⟨h,h7⟩
    ·left;left;omega
   ·by_cases h:c.kind=6∨c.kind=7
    ·left;right;exact ⟨h,h6⟩
    ·left;left;omega
   ·by_cases h:c.kind=6∨c.kind=7
    ·left;right;exact ⟨h,h6⟩
    ·by_cases h2:c.kind=8∨c.kind=9
     ·right;exact ⟨h2,h7⟩
     ·left;left;omega
 ·rintro ⟨⟨⟨⟨⟨⟨k1,k2,k3⟩,k4⟩,k9⟩,bE⟩,bD⟩,bC⟩
  have Ak:(c.cells.length:Int)<=q.cells:=by
   have:=PP q.cells.toNat c.cells k2 (fun x hx=>by have:=k1 x hx;omega);omega
  refine ⟨⟨⟨⟨⟨⟨⟨⟨⟨⟨⟨by omega,by omega⟩,Ak⟩,fun x hx=>⟨(k1 x hx).1,by have:=(k1 x hx).2;omega⟩⟩,k2⟩,?_⟩,?_⟩,?_⟩,k9⟩,bE⟩,bD⟩,bC⟩
  ·rcases k4 with (h | h) | h
   ·left;omega
   ·right;exact h.2
   ·left;omega
  ·rcases k4 with (h | h) | h
   ·left;omega
   ·left;omega
   ·right;exact h.2
  ·by_cases h8:8<=c.kind
   ·right;exact k3 h8
   ·left;omega
def C2 (q:AA):Bool:=
 decide (1<=q.cells)&&decide (q.cells<=256)&&decide (1<=q.symbols)&&decide (q.symbols<=16)&&((q.values.length:Int)==q.symbols)&&CW q.values 0 99&&
 ((q.nbrs.length:Int)==q.cells)&&I1 q.nbrs&&decide (q.cons.length<=4096)&&q.cons.all (DA q)
def GM (kind:Int):Int:=if kind=3∨kind=4 then 2 else if kind=5 then 3 else if kind=8∨kind=9 then 4 else 1
def Hz (q:AA) (i:Int):Int×Int:=
 if C2 q=false then (0,191) else if 0<=i/\ i<q.cons.length then (GM ((q.cons.getD i.toNat default).kind),0) else (0,260)
theorem Dp {q:AA} (h:C2 q=true):(1<=q.cells/\ q.cells<=256)/\ (1<=q.symbols/\ q.symbols<=16)/\ ((q.values.length:Int)=q.symbols/\ CW q.values 0 99=true)/\
 ((q.nbrs.length:Int)=q.cells/\ I1 q.nbrs=true)/\ q.cons.length<=4096/\ ∀ c∈q.cons,DA q c=true:=by
 unfold C2 at h;simp only [zBE,zCK,zBf,zBT] at h;obtain ⟨⟨⟨⟨⟨⟨⟨⟨⟨h1,h2⟩,h3⟩,h4⟩,h5⟩,h6⟩,h7⟩,h8⟩,h9⟩,F3⟩:=h;exact ⟨⟨h1,h2⟩,⟨h3,h4⟩,⟨h5,h6⟩,⟨h7,h8⟩,h9,F3⟩
theorem mE {q:AA} {c:AC} (h:DA q c=true):Fi q.cells c.kind c.cells.length=true:=by
 unfold DA at h;simp only [zBE] at h;exact h.1.1.1.1.2
theorem Pb {n kind:Int} {len:Nat} (h:Fi n kind len=true):1<=kind/\ kind<=9:=by
 unfold Fi at h;simp at h;omega
theorem Nd {k:Int} (h:1<=k/\ k<=9):k=1∨k=2∨k=3∨k=4∨k=5∨k=6∨k=7∨k=8∨k=9:=by omega
end Go.Proofs.YtekkngkphejfcaaGreatDoor
namespace Go.Proofs.YtekkngkphejfcaaGreatDoor
open Go.RowKit
theorem iA {R:Type} (m:Nat -> Int -> Option R) (len N0:Nat) (B:Nat -> Option R) (h0: ∀ (n i:Nat),N0<=n -> i<len -> m (n+1) (i:Int)=(B i).or (m n ((i:Int)+1))):
 ∀ (k i n:Nat),i+k=len -> N0<=n -> m (n+k) (i:Int)=((List.range' i k).findSome? B).or (m n (len:Int))
 | 0,i,n,h,hn=>by
  have:i=len:=by omega
  subst this;rfl
 | k+1,i,n,h,hn=>by
  show m (n+k+1) (i:Int)=_
  rw [h0 (n+k) i (by omega) (by omega),zGn,List.findSome?_cons];cases B i with
  | some r=>rfl
  | none=>
   have:=iA m len N0 B h0 k (i+1) n (by omega) hn;rw [←this];simp
theorem IW {R:Type} (m:Nat -> Int -> Option R) (len N0:Nat) (B:Nat -> Option R) (h0: ∀ (n i:Nat),N0<=n -> i<len -> m (n+1) (i:Int)=(B i).or (m n ((i:Int)+1))) {n:Nat} (hn:N0+len<=n):
 m n 0=((List.range len).findSome? B).or (m (n-len) (len:Int)):=by
 have:=iA m len N0 B h0 len 0 (n-len) (by omega) (by omega);rw [Nat.sub_add_cancel (by omega)] at this;rw [zFx];exact this
theorem MB {R:Type} {l:List Nat} {p:Nat -> Bool} {r:R}:(l.findSome? fun i=>if p i then none else some r)=if l.all p then none else some r:=by
 induction l with
 | nil=>rfl
 | cons a l ih=>
  rw [List.findSome?_cons,zGA];cases hp:p a
  ·simp
  ·simp [ih]
theorem Rp {α:Type} {l:List α} {d:α} {p:α -> Bool}:((List.range l.length).all fun i=>p (l.getD i d))=l.all p:=by
 rw [zCM,zBT,zBT];constructor
 ·intro h x hx;obtain ⟨i,hi,rfl⟩:=zEz hx;have:=h i (by simpa using hi);simpa [hi] using this
 ·intro h i hi;have A5:i<l.length:=by simpa using hi
  simp [A5,h _ (zB0 A5)]
theorem r64 {i len:Nat} (h:i<len) (hl:len<=LB):AG ((i:Int)+1):=by rw [Ae];unfold LB at hl;omega
theorem UR {l:List Int} {lo up:Int} {n:Nat} (hl:l.length<=LB) (hn:l.length<n):MM n l lo up=some (CW l lo up):=by
 unfold MM pU;have S:=IW (fun n i=>Qc l lo up n (.l1 i)) l.length 0 (fun i=>if Im lo up (l.getD i 0) then none else some false) (fun n i _ hi=>?_) (n:=n) (by omega)
 ·refine S.trans ?_;rw [MB,Rp (p:=Im lo up)];unfold CW;cases l.all (Im lo up) with
  | false=>rfl
  | true=>
   obtain ⟨m,hm⟩: ∃ m,n-l.length=m+1:=⟨n-l.length-1,by omega⟩;rw [hm];simp [Qc,dw]
 ·have h1:(i:Int)<(l.length:Int):=by omega
  have h2:=r64 hi hl;simp only [Qc,dw,h1,h2,zFH,zBA,zE2,zFm,zDH,zAB,Im];obtain ⟨x,hg⟩: ∃ y,l.getD i 0=y:=⟨_,rfl⟩;simp only [hg]
  by_cases a:x<lo
  ·have: ¬ lo<=x:=by omega
   simp [a,this]
  ·have a':lo<=x:=by omega
   by_cases b:up<x
   ·have: ¬ x<=up:=by omega
    simp [a,b,a',this]
   ·have b':x<=up:=by omega
    simp [a,b,a',b']
theorem yu {l:List Int} {lo up:Int} {n:Nat} (hl:l.length<=LB) (hn:l.length<n): ∃ r:Int,Wv n l lo up=some r/\ (0<=r↔CW l lo up=false):=by
 unfold Wv mR;have S:=IW (fun n i=>Nj l lo up n (.l1 i)) l.length 0 (fun i=>if Im lo up (l.getD i 0) then none else some (i:Int)) (fun n i _ hi=>?_) (n:=n) (by omega)
 ·have S:=S;rw [show Nj l lo up n (.l1 0)=_ from S];cases hf:(List.range l.length).findSome? (fun i=>if Im lo up (l.getD i 0) then none else some (i:Int)) with
  | some r=>
   refine ⟨r,rfl,?_⟩;obtain ⟨i,hi,hr⟩:=zFy hf;have A5:i<l.length:=by simpa using hi
   split at hr
   ·cases hr
   ·rename_i hx;cases hr;refine ⟨fun _=>?_,fun _=>by omega⟩;unfold CW;rw [List.all_eq_false];exact ⟨l[i],zB0 A5,by simpa [A5] using hx⟩
  | none=>
   obtain ⟨m,hm⟩: ∃ m,n-l.length=m+1:=⟨n-l.length-1,by omega⟩;refine ⟨-1,by rw [hm];simp [Nj,bP],?_⟩;rw [zGE] at hf
   have:CW l lo up=true:=by
    unfold CW;rw [←Rp (p:=Im lo up) (d:=(0:Int)),zBT];intro i hi;have:=hf i hi;cases hc:Im lo up (l.getD i 0) with
    | true=>rfl
    | false=>rw [hc] at this;simp at this
   simp [this]
 ·have h1:(i:Int)<(l.length:Int):=by omega
  have h2:=r64 hi hl;simp only [Nj,bP,Yn,fL,h1,h2,zFH,zBA,zE2,zFm,zDH,zAB,Im];obtain ⟨x,hg⟩: ∃ y,l.getD i 0=y:=⟨_,rfl⟩;simp only [hg]
  by_cases a:x<lo
  ·have: ¬ lo<=x:=by omega
   simp [a,this]
  ·have a':lo<=x:=by omega
   by_cases b:up<x
   ·have: ¬ x<=up:=by omega
    simp [a,b,a',this]
   ·have b':x<=up:=by omega
    simp [a,b,a',b']
theorem V4 {l:List Int} {lo up:Int} {n:Nat} (hl:l.length<=LB) (hn:l.length<n):Lh n l lo up=some (CW l lo up):=by
 obtain ⟨r,h1,h2⟩:=yu (lo:=lo) (up:=up) hl hn;unfold Lh aB YB dg;rw [h1];cases hw:CW l lo up with
 | true=>
  have: ¬ 0<=r:=fun h=>by rw [h2.1 h] at hw;cases hw
  simp [this]
 | false=>
  have:0<=r:=h2.2 hw;simp [this]
theorem na {l:List Int} {x:Int} {n:Nat} (hl:l.length<=LB) (hn:l.length<n):has n l x=some (l.contains x):=by
 unfold has nZ;have S:=IW (fun n i=>P6 l x n (.l1 i)) l.length 0 (fun i=>if (l.getD i 0 != x) then none else some true) (fun n i _ hi=>?_) (n:=n) (by omega)
 ·refine S.trans ?_;rw [MB,Rp (p:=fun y=>y != x)]
  have e:l.all (fun y=>y != x)= !l.contains x:=by
   rw [zCM];simp;exact ⟨fun h hx=>h x hx rfl,fun h y hy e=>h (e▸hy)⟩
  rw [e];cases l.contains x with
  | true=>rfl
  | false=>
   obtain ⟨m,hm⟩: ∃ m,n-l.length=m+1:=⟨n-l.length-1,by omega⟩;rw [hm];simp [P6,cw]
 ·have h1:(i:Int)<(l.length:Int):=by omega
  have h2:=r64 hi hl;simp only [P6,cw,h1,h2,zFH,zBA,zE2,zFm,zDH,zAB];obtain ⟨y,hg⟩: ∃ y,l.getD i 0=y:=⟨_,rfl⟩;simp only [hg]
  by_cases a:y=x
  ·simp [a]
  ·have:(y==x)=false:=by simp [a]
   simp [this,a]
theorem zDk {l:List Int} {x:Int} {n:Nat} (hl:l.length<=LB) (hn:l.length<n):MJ n l x=some (l.contains x):=by
 have: ∃ r:Int,Wx n l x=some r/\ (0<=r↔l.contains x=true):=by
  unfold Wx mT;have S:=IW (fun n i=>Nl l x n (.l1 i)) l.length 0 (fun i=>if (x != l.getD i 0) then none else some (i:Int)) (fun n i _ hi=>?_) (n:=n) (by omega)
  ·rw [show Nl l x n (.l1 0)=_ from S];cases hf:(List.range l.length).findSome? (fun i=>if (x != l.getD i 0) then none else some (i:Int)) with
   | some r=>
    refine ⟨r,rfl,?_⟩;obtain ⟨i,hi,hr⟩:=zFy hf;have A5:i<l.length:=by simpa using hi
    split at hr
    ·cases hr
    ·rename_i hx;cases hr;refine ⟨fun _=>?_,fun _=>by omega⟩;have:x=l[i]:=by simpa [A5] using hx
     rw [this];simp
   | none=>
    obtain ⟨m,hm⟩: ∃ m,n-l.length=m+1:=⟨n-l.length-1,by omega⟩;refine ⟨-1,by rw [hm];simp [Nl,bQ],?_⟩;rw [zGE] at hf
    have:l.contains x=false:=by
     rw [zFw];intro h;obtain ⟨i,hi,e⟩:=zEz (by simpa using h:x∈l);have:=hf i (by simpa using hi);simp [hi,e] at this
    rw [this];simp
  ·have h1:(i:Int)<(l.length:Int):=by omega
   have h2:=r64 hi hl;simp only [Nl,bQ,h1,h2,zFH,zBA,zE2,zFm,zDH,zAB];obtain ⟨y,hg⟩: ∃ y,l.getD i 0=y:=⟨_,rfl⟩;simp only [hg]
   by_cases a:x=y
   ·simp [a]
   ·have:(x==y)=false:=by simp [a]
    simp [this,a]
 obtain ⟨r,h1,h2⟩:=this;unfold MJ dh;rw [h1]
 by_cases h:0<=r
 ·have:=h2.1 h;simp only [zA9];rw [this];simp [h]
 ·have:l.contains x=false:=by rw [zFw];exact fun hc=>h (h2.2 hc)
  simp only [zA9];rw [this];simp;omega
end Go.Proofs.YtekkngkphejfcaaGreatDoor
namespace Go.Proofs.YtekkngkphejfcaaGreatDoor
open Go.RowKit
def E1 (g:List (List Int)):Nat:=(g.map fun r=>r.length+2).sum
theorem Qr: ∀ {g:List (List Int)} {r:List Int},r∈g -> r.length+2<=E1 g
 | [],_,h=>by cases h
 | a::g,r,h=>by
  simp only [E1,zFa,List.sum_cons];rcases zCB.1 h with rfl | h
  ·omega
  ·have:=Qr h;unfold E1 at this;omega
theorem fK {g:List (List Int)} {v:Nat} (hv:v<g.length):E1 (g.drop v)=(g.getD v []).length+2+E1 (g.drop (v+1)):=by
 rw [zB2 hv];simp only [E1,zFa,List.sum_cons,u8,zBD hv,zFs]
theorem QD {g:List (List Int)} {v:Nat} (hv:v<g.length):g.getD v []∈g:=by
 rw [u8,zBD hv];exact zB0 hv
section
variable {g:List (List Int)} {v j n:Nat}
theorem lI {R:Type} (next Qd:R) (c:Bool -> R) (hc:c true=next) (Iv:c false=Qd) (hv:v<g.length) (hj:j<(g.getD v []).length):
 (if FN g v (g.getD v []) j then next else Qd)=
  (if (g.getD v []).getD j 0<0 then Qd else if (g.getD v []).getD j 0>=(g.length:Int) then Qd else if (g.getD v []).getD j 0=(v:Int) then Qd else
   if 0<j then (if (g.getD v []).getD (j-1) 0>=(g.getD v []).getD j 0 then Qd else c ((g.getD ((g.getD v []).getD j 0).toNat []).contains (v:Int)))
   else c ((g.getD ((g.getD v []).getD j 0).toNat []).contains (v:Int))):=by
 unfold FN;obtain ⟨x,hx⟩: ∃ x,(g.getD v []).getD j 0=x:=⟨_,rfl⟩;obtain ⟨y,hy⟩: ∃ y,(g.getD v []).getD (j-1) 0=y:=⟨_,rfl⟩;simp only [hx,hy]
 by_cases a:x<0
 ·have: ¬ 0<=x:=by omega
  simp [a,this]
 ·have a':0<=x:=by omega
  by_cases b:x>=(g.length:Int)
  ·have: ¬ x<(g.length:Int):=by omega
   simp [a,b,this]
  ·have b':x<(g.length:Int):=by omega
   by_cases d:x=(v:Int)
   ·simp [a,b,d]
   ·have d':(x != (v:Int))=true:=by simp [d]
    cases hcc:(g.getD x.toNat []).contains (v:Int) with
    | true=>
     by_cases e:0<j
     ·by_cases f:y>=x
      ·have: ¬ y<x:=by omega
       simp [a,b,d,d',e,f,this,a',b']
      ·have f':y<x:=by omega
       simp [a,b,d,d',e,f,f',a',b',hc]
     ·simp [a,b,d,d',e,a',b',hc]
    | false=>
     by_cases e:0<j
     ·by_cases f:y>=x
      ·have: ¬ y<x:=by omega
       simp [a,b,d,d',e,f,this,a',b']
      ·have f':y<x:=by omega
       simp [a,b,d,d',e,f,f',a',b',Iv]
     ·simp [a,b,d,d',e,a',b',Iv]
theorem j4 {j len:Nat} (h:j<len) (hl:len<=LB):AG ((j:Int)-1):=by rw [Ae];unfold LB at hl;omega
theorem PG {j len:Nat} (h:0<j) (h2:j<len):((0:Int)<=(j:Int)-1/\ (j:Int)-1<(len:Int))/\ ((j:Int)-1).toNat=j-1/\ (j:Int)>0:=by omega
theorem uy {self:O3 -> Option Int} (hv:v<g.length) (hg:g.length<=256) (hj:j<(g.getD v []).length) (hr: ∀ r∈g,r.length<=LB) (hn: ∀ r∈g,r.length<n):
 Vf n self g (v:Int) (j:Int)=(if FN g v (g.getD v []) j then none else some (120:Int)).or (self (.l2 (v:Int) ((j:Int)+1))):=by
 have Ak:=hr _ (QD hv);have h1:(v:Int)<(g.length:Int):=by omega
 have h2:(j:Int)<((g.getD v []).length:Int):=by omega
 have h3:=r64 hj Ak;have key:=lI (g:=g) (v:=v) (j:=j) (self (.l2 (v:Int) ((j:Int)+1))) (some (120:Int)) (fun b=>bif b then self (.l2 (v:Int) ((j:Int)+1)) else some 120) rfl rfl hv hj
 have e1:((if FN g v (g.getD v []) j then none else some (120:Int)).or (self (.l2 (v:Int) ((j:Int)+1))))=(if FN g v (g.getD v []) j then self (.l2 (v:Int) ((j:Int)+1)) else some 120):=by
  cases FN g v (g.getD v []) j <;> rfl
 rw [e1,key];simp only [Vf,h1,h2,h3,zFH,zBA,zE2,zFm,zDH,zAB];obtain ⟨x,hx⟩: ∃ x,(g.getD v []).getD j 0=x:=⟨_,rfl⟩;simp only [hx]
 by_cases a:x<0
 ·simp [a]
 by_cases b:x>=(g.length:Int)
 ·simp [a,b]
 by_cases d:x=(v:Int)
 ·simp [a,b,d]
 have d':(x==(v:Int))=false:=by simp [d]
 have No:g.getD x.toNat []∈g:=QD (by omega);have hh:has n (g.getD x.toNat []) (v:Int)=some ((g.getD x.toNat []).contains (v:Int)):=na (hr _ No) (hn _ No);have GQ:0<=x/\ x<(g.length:Int):=by omega
 have fin:((has n (g.getD x.toNat []) (v:Int)).bind fun y1=>bif (!y1) then some (120:Int) else self (.l2 (v:Int) ((j:Int)+1)))=(bif (g.getD x.toNat []).contains (v:Int) then self (.l2 (v:Int) ((j:Int)+1)) else some 120):=by
  rw [hh];cases (g.getD x.toNat []).contains (v:Int) <;> rfl
 by_cases e:0<j
 ·have h4:AG ((j:Int)-1)/\ ((0:Int)<=(j:Int)-1/\ (j:Int)-1<((g.getD v []).length:Int)):=⟨j4 hj Ak,(PG e hj).1⟩;have h5:=(PG e hj).2.1;have e':=(PG e hj).2.2;simp only [e',h4,h5,e,GQ,d',zFH,zBA,zAD,zDH,zAA a,zAA b,zFm,zBP a,zBP b,zBP d,fin]
  by_cases f:(g.getD v []).getD (j-1) 0>=x
  ·simp only [f,zFH,zBA,zDH]
  ·simp only [zAA f,zAD,zBP f]
 ·have e': ¬ (j:Int)>0:=by omega
  simp only [GQ,d',zAD,zDH,zAA a,zAA b,zAA e',zFm,zBP a,zBP b,zBP d,zBP e,fin]
theorem zCW {self:QG -> Option Int} {row:List Int} (Jq:row=g.getD v []) (hv:v<g.length) (hg:g.length<=256) (hj:j<(g.getD v []).length) (hr: ∀ r∈g,r.length<=LB) (hn: ∀ r∈g,r.length<n):
 Xe n self g (v:Int) row (v:Int) row (row.length:Int) (j:Int)=(if FN g v (g.getD v []) j then none else some (120:Int)).or (self (.l2 (v:Int) row (v:Int) row (row.length:Int) ((j:Int)+1))):=by
 subst Jq;have Ak:=hr _ (QD hv);have h1:(v:Int)<(g.length:Int):=by omega
 have h2:(j:Int)<((g.getD v []).length:Int):=by omega
 have h3:=r64 hj Ak;obtain ⟨NX,nj⟩: ∃ NX,self (.l2 (v:Int) (g.getD v []) (v:Int) (g.getD v []) ((g.getD v []).length:Int) ((j:Int)+1))=NX:=⟨_,rfl⟩;have key:=lI (g:=g) (v:=v) (j:=j) NX (some (120:Int)) (fun b=>bif b then NX else some 120) rfl rfl hv hj
 have e1:((if FN g v (g.getD v []) j then none else some (120:Int)).or NX)=(if FN g v (g.getD v []) j then NX else some 120):=by
  cases FN g v (g.getD v []) j <;> rfl
 rw [nj,e1,key];simp only [Xe,h1,h2,h3,zFH,zBA,zE2,zFm,zDH,zAB,nj];obtain ⟨x,hx⟩: ∃ x,(g.getD v []).getD j 0=x:=⟨_,rfl⟩;simp only [hx]
 by_cases a:x<0
 ·simp [a]
 by_cases b:x>=(g.length:Int)
 ·simp [a,b]
 by_cases d:x=(v:Int)
 ·simp [a,b,d]
 have d':(x==(v:Int))=false:=by simp [d]
 have No:g.getD x.toNat []∈g:=QD (by omega);have hh:MJ n (g.getD x.toNat []) (v:Int)=some ((g.getD x.toNat []).contains (v:Int)):=zDk (hr _ No) (hn _ No);have GQ:0<=x/\ x<(g.length:Int):=by omega
 have fin:((MJ n (g.getD x.toNat []) (v:Int)).bind fun y1=>bif (!y1) then some (120:Int) else NX)=(bif (g.getD x.toNat []).contains (v:Int) then NX else some 120):=by
  rw [hh];cases (g.getD x.toNat []).contains (v:Int) <;> rfl
 by_cases e:0<j
 ·have h4:AG ((j:Int)-1)/\ ((0:Int)<=(j:Int)-1/\ (j:Int)-1<((g.getD v []).length:Int)):=⟨j4 hj Ak,(PG e hj).1⟩;have h5:=(PG e hj).2.1;have e':=(PG e hj).2.2;simp only [e',h4,h5,e,GQ,d',zFH,zBA,zAD,zDH,zAA a,zAA b,zFm,zBP a,zBP b,zBP d,fin]
  by_cases f:(g.getD v []).getD (j-1) 0>=x
  ·simp only [f,zFH,zBA,zDH]
  ·simp only [zAA f,zAD,zBP f]
 ·have e': ¬ (j:Int)>0:=by omega
  simp only [GQ,d',zAD,zDH,zAA a,zAA b,zAA e',zFm,zBP a,zBP b,zBP d,zBP e,fin]
end
theorem iW {g:List (List Int)} {v:Nat} (hv:v<g.length):((List.range' v (g.length-v)).all fun i=>Hp g i (g.getD i []))=(Hp g v (g.getD v [])&&(List.range' (v+1) (g.length-(v+1))).all fun i=>Hp g i (g.getD i [])):=by
 have:g.length-v=g.length-(v+1)+1:=by omega
 rw [this,zGn,zGA]
theorem jA {g:List (List Int)} (hg:g.length<=256) (hr: ∀ r∈g,r.length<=LB): ∀ (k v n:Nat),v+k=g.length -> E1 (g.drop v)+E1 g+1<=n -> IY g n (.l1 (v:Int))=some (Cm ((List.range' v (g.length-v)).all fun i=>Hp g i (g.getD i [])) 120)
 | 0,v,n,hv,hn=>by
  have:v=g.length:=by omega
  subst this;obtain ⟨m,rfl⟩: ∃ m,n=m+1:=⟨n-1,by omega⟩;simp [IY,Zj,Cm]
 | k+1,v,n,hv,hn=>by
  have Ct:v<g.length:=by omega
  rw [fK Ct] at hn;have hm:=Qr (QD Ct);obtain ⟨m,rfl⟩: ∃ m,n=m+1:=⟨n-1,by omega⟩;have h1:(v:Int)<(g.length:Int):=by omega
  have e1:IY g (m+1) (.l1 (v:Int))=IY g m (.l2 (v:Int) 0):=by simp [IY,Zj,h1]
  rw [e1];have S:=IW (fun n i=>IY g n (.l2 (v:Int) i)) (g.getD v []).length (E1 g) (fun j=>if FN g v (g.getD v []) j then none else some 120) (fun n' j Fk hj=>uy (n:=n') Ct hg hj hr fun r C7=>by have:=Qr C7;omega) (n:=m) (by omega);refine S.trans ?_;rw [MB,iW Ct];have eR:((List.range (g.getD v []).length).all fun i=>FN g v (g.getD v []) i)=Hp g v (g.getD v []):=rfl;rw [eR];cases Hp g v (g.getD v []) with
  | false=>rfl
  | true=>
   obtain ⟨m',CB⟩: ∃ m',m-(g.getD v []).length=m'+1:=⟨m-(g.getD v []).length-1,by omega⟩;rw [CB];have h2:AG ((v:Int)+1):=by rw [Ae];omega
   have ih:=jA hg hr k (v+1) m' (by omega) (by omega);have h3: ¬ (((g.getD v []).length:Int)<((g.getD v []).length:Int)):=by omega
   simp only [zDH,IY,Vf,h1,h2,zE2,zFm,zAB,zAA h3,zAD,zCE];exact ih
theorem oA {g:List (List Int)} (hg:g.length<=256) (hr: ∀ r∈g,r.length<=LB): ∀ (k v n:Nat),v+k=g.length -> E1 (g.drop v)+E1 g+1<=n -> I4 g n (.l1 (v:Int))=some (Cm ((List.range' v (g.length-v)).all fun i=>Hp g i (g.getD i [])) 120)
 | 0,v,n,hv,hn=>by
  have:v=g.length:=by omega
  subst this;obtain ⟨m,rfl⟩: ∃ m,n=m+1:=⟨n-1,by omega⟩;simp [I4,dQ,Cm]
 | k+1,v,n,hv,hn=>by
  have Ct:v<g.length:=by omega
  rw [fK Ct] at hn;have hm:=Qr (QD Ct);obtain ⟨m,rfl⟩: ∃ m,n=m+1:=⟨n-1,by omega⟩;have h1:(v:Int)<(g.length:Int):=by omega
  have e1:I4 g (m+1) (.l1 (v:Int))=I4 g m (.l2 (v:Int) (g.getD v []) (v:Int) (g.getD v []) ((g.getD v []).length:Int) 0):=by
   simp only [I4,dQ,h1,zFH,zBA,zE2,zFm,zDH,zAB]
  rw [e1];have S:=IW (fun n i=>I4 g n (.l2 (v:Int) (g.getD v []) (v:Int) (g.getD v []) ((g.getD v []).length:Int) i)) (g.getD v []).length (E1 g) (fun j=>if FN g v (g.getD v []) j then none else some 120) (fun n' j Fk hj=>zCW (n:=n') rfl Ct hg hj hr fun r C7=>by have:=Qr C7;omega) (n:=m) (by omega);refine S.trans ?_;rw [MB,iW Ct];have eR:((List.range (g.getD v []).length).all fun i=>FN g v (g.getD v []) i)=Hp g v (g.getD v []):=rfl;rw [eR];cases Hp g v (g.getD v []) with
  | false=>rfl
  | true=>
   obtain ⟨m',CB⟩: ∃ m',m-(g.getD v []).length=m'+1:=⟨m-(g.getD v []).length-1,by omega⟩;rw [CB];have h2:AG ((v:Int)+1):=by rw [Ae];omega
   have ih:=oA hg hr k (v+1) m' (by omega) (by omega);have h3: ¬ (((g.getD v []).length:Int)<((g.getD v []).length:Int)):=by omega
   simp only [zDH,I4,Xe,h2,zAA h3,zAD,zCE];exact ih
theorem i9 {g:List (List Int)} {n:Nat} (hr: ∀ r∈g,r.length<=LB) (hn:2*E1 g+1<=n):La n g=some (Cm (I1 g) 120):=by
 unfold La i7 I1
 by_cases h:(g.length:Int)>256
 ·have: ¬ g.length<=256:=by omega
  simp [h,this,Cm]
 ·have h':g.length<=256:=by omega
  have:=jA h' hr g.length 0 n (by omega) (by simp;omega);simp only [zAA h,zAD,zBC h',zCE];rw [zFx];simpa using this
theorem n9 {g:List (List Int)} {n:Nat} (hr: ∀ r∈g,r.length<=LB) (hn:2*E1 g+1<=n):Tn n g=some (Cm (I1 g) 120):=by
 unfold Tn n8 I1
 by_cases h:(g.length:Int)>256
 ·have: ¬ g.length<=256:=by omega
  simp [h,this,Cm]
 ·have h':g.length<=256:=by omega
  have:=oA h' hr g.length 0 n (by omega) (by simp;omega);simp only [zAA h,zAD,zBC h',zCE];rw [zFx];simpa using this
end Go.Proofs.YtekkngkphejfcaaGreatDoor
namespace Go.Proofs.YtekkngkphejfcaaGreatDoor
open Go.RowKit
theorem V9 {s:Int} (h1:1<=s) (h2:s<=16):IntKind.i64.wrap (1*2 ^ s.toNat)=2 ^ s.toNat/\ AG ((2:Int) ^ s.toNat-1)/\ ((0:Int)<=s/\ s<=((IntKind.i64.bits:Nat):Int)):=by
 obtain ⟨m,rfl⟩:=zFf (show 0<=s by omega);rw [zAB];have h:m<17:=by omega
 refine ⟨?_,?_,by omega,by show (m:Int)<=64;omega⟩
 ·revert h;clear h1 h2;revert m;decide
 ·revert h;clear h1 h2;revert m;decide
theorem zDO {l:List Int} (hl:l.length<=LB) {i:Nat} (hi:i<l.length) {self:QS -> Option Bool} {n:Nat} (j:Nat) (hj:j<i):X3 n self l (i:Int) (j:Int)=(if l.getD i 0 != l.getD j 0 then none else some false).or (self (.l2 (i:Int) ((j:Int)+1))):=by
 have h1:(j:Int)<(i:Int):=by omega
 have h2:(i:Int)<(l.length:Int):=by omega
 have h3:(j:Int)<(l.length:Int):=by omega
 have h4:=r64 (show j<l.length by omega) hl;simp only [X3,h1,h2,h3,h4,zFH,zBA,zE2,zFm,zDH,zAB]
 by_cases a:l.getD i 0=l.getD j 0
 ·have t:(l.getD i 0==l.getD j 0)=true:=by simp only [zBf];exact a
  have t':(l.getD i 0 != l.getD j 0)=false:=by simp only [bne,t,zCJ]
  simp only [t,t',zBA,zCQ,zFo,Option.or]
 ·have:(l.getD i 0==l.getD j 0)=false:=by simp only [zB4];exact a
  have a':(l.getD i 0 != l.getD j 0)=true:=by simp only [zFX];exact a
  simp only [this,a',zAD,zDH,Option.or]
theorem qw {l:List Int} {i:Nat} (hi:i<=l.length) {x:Int}:((List.range i).all fun j=>x != l.getD j 0)= !(l.take i).contains x:=by
 rw [zCM];simp only [zBT,zBc,zFX,ne_eq,zBh,zFw,zFZ,zGQ,not_exists];constructor
 ·intro h j hj e;have BI:j<l.length:=by omega
  refine h j (by omega) ?_;rw [←e];simp [BI]
 ·intro h j hj e;have BI:j<l.length:=by omega
  exact h j (by omega) (by rw [e];simp [BI])
theorem ow {l:List Int} (hl:l.length<=LB): ∀ (k i n:Nat),i+k=l.length -> k*(l.length+2)+1<=n -> I7 l n (.l1 (i:Int))=some ((List.range' i k).all fun i=>!(l.take i).contains (l.getD i 0))
 | 0,i,n,hi,hn=>by
  have:i=l.length:=by omega
  subst this;obtain ⟨m,rfl⟩: ∃ m,n=m+1:=⟨n-1,by omega⟩;simp [I7,da]
 | k+1,i,n,hi,hn=>by
  have A5:i<l.length:=by omega
  rw [zGL] at hn;obtain ⟨m,rfl⟩: ∃ m,n=m+1:=⟨n-1,by omega⟩;have h1:(i:Int)<(l.length:Int):=by omega
  have e1:I7 l (m+1) (.l1 (i:Int))=I7 l m (.l2 (i:Int) 0):=by simp [I7,da,h1]
  rw [e1];have S:=IW (fun n j=>I7 l n (.l2 (i:Int) j)) i 0 (fun j=>if l.getD i 0 != l.getD j 0 then none else some false) (fun n' j _ hj=>zDO (n:=n') hl A5 j hj) (n:=m) (by omega);refine S.trans ?_;rw [MB,qw (by omega),zGn,zGA];cases (l.take i).contains (l.getD i 0) with
  | true=>rfl
  | false=>
   obtain ⟨m',CB⟩: ∃ m',m-i=m'+1:=⟨m-i-1,by omega⟩;rw [CB];have ih:=ow hl k (i+1) m' (by omega) (by omega);have h2:=r64 A5 hl;have h3: ¬ ((i:Int)<(i:Int)):=by omega
   simp only [zCN,zDH,I7,X3,zAA h3,zAD,h2,zCE];exact ih
theorem zDJ {l:List Int} {n:Nat} (hl:l.length<=LB) (hn:l.length*(l.length+2)+1<=n):X5 n l=some (NT l):=by
 unfold X5 ov NT;rw [zFx];exact ow hl l.length 0 n (by omega) hn
section
variable {c:AC} {n:Nat}
def KM (sy:Int) (c:AC):Bool:=CW [c.set,c.other] 0 (2 ^ sy.toNat-1)&&CW [c.lo,c.hi] 0 65536&&decide (c.runs.length<=8)&&CW c.runs 1 256
theorem Wh {a b:Int}:([a,b]:List Int).length<=LB:=by show 2<=LB;unfold LB;omega
theorem lu {l:List Int}:(decide (((l.length:Nat):Int)<=8))=decide (l.length<=8):=by rw [zCM];simp;omega
theorem zCn {self:MA -> Option Bool} {q:AA} (h1:1<=q.symbols) (h2:q.symbols<=16) (hr:c.runs.length<=LB) (hn:c.runs.length<n) (Jr:2<n):Xp n self q c=some (KM q.symbols c):=by
 obtain ⟨p1,p2,p3⟩:=V9 h1 h2;unfold Xp;rw [p1,zAE ⟨p3,p2⟩,V4 Wh (show 2<n from Jr),V4 Wh (show 2<n from Jr),V4 hr hn];unfold KM;rw [lu];cases CW [c.set,c.other] 0 (2 ^ q.symbols.toNat-1) <;> cases CW [c.lo,c.hi] 0 65536 <;> cases decide (c.runs.length<=8) <;> rfl
theorem zCp {self:MA -> Option Bool} {q:AA} (hq:q.cells<=256) (hc:c.cells.length<=LB) {i:Nat} (hi:i<c.cells.length) {o:List Bool} (ho:o.length=256) (hm: ∀ x:Nat,x<256 -> o.getD x false=(c.cells.take i).contains (x:Int)):
 Tu n self q c (i:Int) o=if OQ q.cells c.kind c.cells i then self (.l1 ((i:Int)+1) (o.set (0+(c.cells.getD i 0).toNat) true)) else some false:=by
 have h1:(i:Int)<(c.cells.length:Int):=by omega
 have h2:=r64 hi hc;unfold OQ;obtain ⟨x,hx⟩: ∃ x,c.cells.getD i 0=x:=⟨_,rfl⟩;simp only [Tu,h1,h2,zFH,zBA,zE2,zFm,zDH,zAB,hx]
 by_cases a:x<0
 ·have: ¬ 0<=x:=by omega
  simp [a,this]
 have a':0<=x:=by omega
 by_cases b:x>=q.cells
 ·have: ¬ x<q.cells:=by omega
  simp [a,b,this]
 have b':x<q.cells:=by omega
 have hg:((0:Int)<=x/\ x<((256:Nat):Int))/\ 0+x.toNat<o.length:=⟨⟨a',by omega⟩,by omega⟩
 have hmm:o.getD (0+x.toNat) false=(c.cells.take i).contains x:=by
  rw [zBj,hm x.toNat (by omega)]
  congr 1;omega
 simp only [hg,hmm,zAA a,zAA b,zAD,zDH,zBC a',zBC b',zCE,zFm];cases (c.cells.take i).contains x with
 | true=>rfl
 | false=>
  by_cases e:c.kind>=8
  ·have e':8<=c.kind:=e
   by_cases f:x=(i:Int)
   ·have f1:(x != (i:Int))=false:=by simp [f]
    have f2:(x==(i:Int))=true:=by simp [f]
    simp only [e,e',f1,f2,zFH,zBA,zAD,zCN,zCJ,zFP,zCE,zDH]
   ·have f1:(x != (i:Int))=true:=by simp [f]
    have f2:(x==(i:Int))=false:=by simp [f]
    simp only [e,e',f1,f2,zFH,zBA,zAD,zCN,zCJ,zFP,zCE,zCQ,zFo]
  ·have e': ¬ 8<=c.kind:=e;simp only [zAA e,zAA e',zFH,zAD,zCN,zFz,Bool.and_self,zDH]
theorem zCo {self:MA -> Option Bool} {q:AA} {o:List Bool}:Tu n self q c (c.cells.length:Int) o=if Fi q.cells c.kind c.cells.length then self .l2 else some false:=by
 have h1: ¬ ((c.cells.length:Int)<(c.cells.length:Int)):=by omega
 simp only [Tu,zAA h1,zAD]
 by_cases hk:1<=c.kind/\ c.kind<=9
 ·obtain ⟨k,nC⟩: ∃ k,c.kind=k:=⟨_,rfl⟩;rw [nC] at hk;simp only [nC];have e2:(((c.cells.length:Nat):Int) != 2)= !(c.cells.length==2):=by rw [zCM];simp;omega
  have e3:(((c.cells.length:Nat):Int) != q.cells)= !(((c.cells.length:Nat):Int)==q.cells):=rfl;rcases Nd hk with h | h | h | h | h | h | h | h | h <;> subst h
  ·rfl
  ·rfl
  ·rfl
  ·rfl
  ·rfl
  ·show (bif (((c.cells.length:Nat):Int) != 2) then some false else self .l2)=_
   rw [e2];unfold Fi;cases c.cells.length==2 <;> rfl
  ·show (bif (((c.cells.length:Nat):Int) != 2) then some false else self .l2)=_
   rw [e2];unfold Fi;cases c.cells.length==2 <;> rfl
  ·show (bif (((c.cells.length:Nat):Int) != q.cells) then some false else self .l2)=_
   rw [e3];unfold Fi;cases ((c.cells.length:Nat):Int)==q.cells <;> rfl
  ·show (bif (((c.cells.length:Nat):Int) != q.cells) then some false else self .l2)=_
   rw [e3];unfold Fi;cases ((c.cells.length:Nat):Int)==q.cells <;> rfl
 ·have Ir:Fi q.cells c.kind c.cells.length=false:=by
   rw [zFw];exact fun h=>hk (Pb h)
  rw [Ir];have z: ∀ m:Int,1<=m -> m<=9 -> (c.kind==m)=false:=fun m h1 h2=>by simp only [zB4];omega
  simp [z 1,z 2,z 3,z 4,z 5,z 6,z 7,z 8,z 9]
theorem oJ {q:AA} (hq:q.cells<=256) (hc:c.cells.length<=LB) (h1:1<=q.symbols) (h2:q.symbols<=16) (hr:c.runs.length<=LB): ∀ (k i n:Nat) (o:List Bool),i+k=c.cells.length -> k+c.runs.length+6<=n -> o.length=256 -> (∀ x:Nat,x<256 -> o.getD x false=(c.cells.take i).contains (x:Int)) ->
 QK q c n (.l1 (i:Int) o)=some ((List.range' i k).all (OQ q.cells c.kind c.cells)&&Fi q.cells c.kind c.cells.length&&KM q.symbols c)
 | 0,i,n,o,hi,hn,ho,hm=>by
  have:i=c.cells.length:=by omega
  subst this;obtain ⟨m,rfl⟩: ∃ m,n=m+1:=⟨n-1,by omega⟩;refine (zCo (n:=m)).trans ?_;cases Fi q.cells c.kind c.cells.length with
  | false=>simp
  | true=>
   obtain ⟨m',rfl⟩: ∃ m',m=m'+1:=⟨m-1,by omega⟩
   show Xp m' (QK q c m') q c=_
   rw [zCn h1 h2 hr (by omega) (by omega)];simp
 | k+1,i,n,o,hi,hn,ho,hm=>by
  obtain ⟨m,rfl⟩: ∃ m,n=m+1:=⟨n-1,by omega⟩;refine (zCp (n:=m) hq hc (show i<c.cells.length by omega) ho hm).trans ?_;rw [zGn,zGA];cases XS:OQ q.cells c.kind c.cells i with
  | false=>simp
  | true=>
   have hx:0<=c.cells.getD i 0/\ c.cells.getD i 0<q.cells:=by
    unfold OQ at XS;simp only [zBE,zCK] at XS;exact ⟨XS.1.1.1,XS.1.1.2⟩
   have ih:=oJ hq hc h1 h2 hr k (i+1) m (o.set (0+(c.cells.getD i 0).toNat) true) (by omega) (by omega) (by simp [ho]) (fun x zY=>?_)
   ·simp only [zDH,zCE];exact ih
   ·have A5:i<c.cells.length:=by omega
    rw [zBj]
    have ht:c.cells.take (i+1)=c.cells.take i++[c.cells.getD i 0]:=by
     rw [List.take_add_one];simp [A5]
    rw [ht,List.contains_append,←hm x zY];rw [u8,zCb]
    by_cases e:(c.cells.getD i 0).toNat=x
    ·have e2:((x:Nat):Int)=c.cells.getD i 0:=by omega
     rw [zAE e,zAE (by omega)];simp [e2]
    ·have e2: ¬ ((x:Nat):Int)=c.cells.getD i 0:=by omega
     rw [zBP e]
     have e3:([c.cells.getD i 0].contains ((x:Nat):Int))=false:=by
      simp only [List.contains_cons,List.contains_nil,zFb,zB4];exact e2
     rw [e3,zFb,u8]
theorem zCr {q:AA} (hq:q.cells<=256) (hc:c.cells.length<=LB) (h1:1<=q.symbols) (h2:q.symbols<=16) (hr:c.runs.length<=LB) (hn:c.cells.length+c.runs.length+6<=n):Xq n q c=some (DA q c):=by
 unfold Xq oK;have:=oJ hq hc h1 h2 hr c.cells.length 0 n (List.replicate 256 false) (by omega) (by omega) zCD (fun x hx=>by rw [u8,zE7,zAE hx];rfl);refine Eq.trans this ?_;rw [←zFx];unfold DA YK KM;simp only [Bool.and_assoc]
end
end Go.Proofs.YtekkngkphejfcaaGreatDoor
namespace Go.Proofs.YtekkngkphejfcaaGreatDoor
open Go.RowKit
section
variable {c:AC} {n:Nat} {cells sy:Int}
def Ph (c:AC):Bool:=(List.range c.cells.length).all fun i=>c.cells.getD i 0==(i:Int)
theorem uV (hc:c.cells.length<=LB) (hr:c.runs.length<=LB) (h1:1<=sy) (h2:sy<=16) (hn:c.cells.length+c.runs.length+6<=n):LY c cells sy n (.l1 0)=some ((!(c.kind==8||c.kind==9)||Ph c)&&KM sy c):=by
 have S:=IW (fun n i=>LY c cells sy n (.l1 i)) c.cells.length 0 (fun i=>if (!(c.kind==8||c.kind==9)||c.cells.getD i 0==(i:Int)) then none else some false) (fun n i _ hi=>?_) (n:=n) (by omega)
 ·refine S.trans ?_;rw [MB]
  have e:((List.range c.cells.length).all fun i=>(!(c.kind==8||c.kind==9)||c.cells.getD i 0==(i:Int)))=(!(c.kind==8||c.kind==9)||Ph c):=by
   unfold Ph;cases (c.kind==8||c.kind==9) with
   | true=>simp
   | false=>simp
  rw [e];cases (!(c.kind==8||c.kind==9)||Ph c) with
  | false=>rfl
  | true=>
   obtain ⟨m,hm⟩: ∃ m,n-c.cells.length=m+1:=⟨n-c.cells.length-1,by omega⟩;rw [hm];obtain ⟨p1,p2,p3⟩:=V9 h1 h2;have h3: ¬ ((c.cells.length:Int)<(c.cells.length:Int)):=by omega
   show Rm m (LY c cells sy m) c cells sy (c.cells.length:Int)=_
   unfold Rm;rw [zAA h3,zAD,p1,zAE ⟨p3,p2⟩,UR Wh (show 2<m by omega),UR Wh (show 2<m by omega),UR hr (show c.runs.length<m by omega)];unfold KM;rw [lu];cases CW [c.set,c.other] 0 (2 ^ sy.toNat-1) <;> cases CW [c.lo,c.hi] 0 65536 <;> cases decide (c.runs.length<=8) <;> rfl
 ·have h1:(i:Int)<(c.cells.length:Int):=by omega
  have h2:=r64 hi hc
  show Rm n (LY c cells sy n) c cells sy (i:Int)=_
  generalize LY c cells sy n=self
  simp only [Rm,h1,h2,zFH,zBA,zE2,zFm,zDH,zAB];obtain ⟨x,hx⟩: ∃ x,c.cells.getD i 0=x:=⟨_,rfl⟩;simp only [hx]
  by_cases f:x=(i:Int)
  ·have f1:(x != (i:Int))=false:=by simp [f]
   have f2:(x==(i:Int))=true:=by simp [f]
   rw [f1,f2];cases c.kind==8 <;> cases c.kind==9 <;> rfl
  ·have f1:(x != (i:Int))=true:=by simp [f]
   have f2:(x==(i:Int))=false:=by simp [f]
   rw [f1,f2];cases c.kind==8 <;> cases c.kind==9 <;> rfl
theorem uW (hc:c.cells.length<=LB) (hr:c.runs.length<=LB) (h0:1<=cells) (h00:cells<=256) (h1:1<=sy) (h2:sy<=16) (hn:c.cells.length*(c.cells.length+2)+c.cells.length+c.runs.length+7<=n):Va n c cells sy=some (VZ c cells sy):=by
 have loop:=uV (cells:=cells) hc hr h1 h2 (n:=n) (by omega);have hR:AG (cells-1):=by rw [Ae];omega
 unfold Va ix VZ;simp only [hR,zDH,UR hc (show c.cells.length<n by omega),zDJ hc (show c.cells.length*(c.cells.length+2)+1<=n by omega),loop,zA9];have zBd:((List.range c.cells.length).all fun i=>c.cells.getD i 0==(i:Int))=Ph c:=rfl;have z2: ∀ b:Bool,(b&&CW [c.set,c.other] 0 (2 ^ sy.toNat-1)&&CW [c.lo,c.hi] 0 65536&&decide (c.runs.length<=8)&&CW c.runs 1 256)=(b&&KM sy c):=fun b=>by unfold KM;simp only [Bool.and_assoc]
 rw [zBd,z2];have e2:(((c.cells.length:Nat):Int) != 2)= !(c.cells.length==2):=by rw [zCM];simp;omega
 have e3:(((c.cells.length:Nat):Int) != cells)= !(((c.cells.length:Nat):Int)==cells):=rfl;rw [e2,e3]
 generalize KM sy c=R
 generalize Ph c=D
 generalize CW c.cells 0 (cells-1)=W
 generalize NT c.cells=U
 generalize (c.cells.length==2)=T
 generalize hE:(((c.cells.length:Nat):Int)==cells)=E
 by_cases k1:c.kind<1
 ·have: ¬ 1<=c.kind:=by omega
  simp [k1,this]
 by_cases k2:c.kind>9
 ·have: ¬ c.kind<=9:=by omega
  simp [k1,k2,this]
 by_cases k3:((c.cells.length:Nat):Int)>cells
 ·have: ¬ ((c.cells.length:Nat):Int)<=cells:=by omega
  simp [k1,k2,k3,this]
 have bF:1<=c.kind:=by omega
 have bB:c.kind<=9:=by omega
 have yh:((c.cells.length:Nat):Int)<=cells:=by omega
 simp only [zAA k1,zAA k2,zAA k3,zBC bF,zBC bB,zBC yh,zAD,zCE];obtain ⟨k,hk⟩: ∃ k,c.kind=k:=⟨_,rfl⟩;rw [hk] at bF bB;simp only [hk];clear hE;rcases Nd ⟨bF,bB⟩ with h | h | h | h | h | h | h | h | h <;> subst h <;> cases W <;> cases U <;> cases T <;> cases E <;> cases D <;> cases R <;> rfl
end
def Oh (c:AC):Nat:=c.cells.length*(c.cells.length+2)+c.cells.length+c.runs.length+7
theorem gQ (c:AC):Oh c=c.cells.length*(c.cells.length+2)+c.cells.length+c.runs.length+7:=rfl
def EM (q:AA):Nat:=q.values.length+2*E1 q.nbrs+(q.cons.map Oh).sum+q.cons.length+10
structure CP (q:AA):Prop where
 values:q.values.length<=LB
 nbrs: ∀ r∈q.nbrs,r.length<=LB
 cells: ∀ c∈q.cons,c.cells.length<=LB
 runs: ∀ c∈q.cons,c.runs.length<=LB
theorem Y5: ∀ {l:List AC} {c:AC},c∈l -> Oh c<=(l.map Oh).sum
 | [],_,h=>by cases h
 | a::l,c,h=>by
  rw [zFa,List.sum_cons];rcases zCB.1 h with rfl | h
  ·omega
  ·have:=Y5 h;omega
section
variable {q:AA} {n:Nat}
theorem oS {b:Bool}:(Cm b 120==0)=b:=by cases b <;> rfl
theorem qm (hF:CP q) (h1:1<=q.cells) (h2:q.cells<=256) (h3:1<=q.symbols) (h4:q.symbols<=16) (h5:q.cons.length<=4096) (hn:EM q<=n): ∃ r:Int,Ws n q.cons q=some r/\ (0<=r↔q.cons.all (DA q)=false):=by
 unfold Ws mQ;have S:=IW (fun n i=>Lr q.cons q n (.l1 i)) q.cons.length (q.cons.map Oh).sum (fun i=>if DA q (q.cons.getD i default) then none else some (i:Int)) (fun n i Fk hi=>?_) (n:=n) (by unfold EM at hn;omega)
 ·rw [show Lr q.cons q n (.l1 0)=_ from S];cases hf:(List.range q.cons.length).findSome? (fun i=>if DA q (q.cons.getD i default) then none else some (i:Int)) with
  | some r=>
   refine ⟨r,rfl,?_⟩;obtain ⟨i,hi,hr⟩:=zFy hf;have A5:i<q.cons.length:=by simpa using hi
   split at hr
   ·cases hr
   ·rename_i hx;cases hr;refine ⟨fun _=>?_,fun _=>by omega⟩;rw [List.all_eq_false];exact ⟨q.cons[i],zB0 A5,by simpa [A5] using hx⟩
  | none=>
   obtain ⟨m,hm⟩: ∃ m,n-q.cons.length=m+1:=⟨n-q.cons.length-1,by unfold EM at hn;omega⟩;refine ⟨-1,by rw [hm];simp [Lr,Wq],?_⟩;rw [zGE] at hf
   have:q.cons.all (DA q)=true:=by
    rw [←Rp (p:=DA q) (d:=(default:AC)),zBT];intro i hi;have:=hf i hi;cases hc:DA q (q.cons.getD i default) with
    | true=>rfl
    | false=>rw [hc] at this;simp at this
   simp [this]
 ·have AP:(i:Int)<(q.cons.length:Int):=by omega
  have hR:AG ((i:Int)+1):=by rw [Ae];omega
  have CA:q.cons.getD i default∈q.cons:=by rw [u8,zBD hi];exact zB0 hi
  have A9:=Y5 CA;have XO:=zCr (n:=n) h2 (hF.cells _ CA) h3 h4 (hF.runs _ CA) (by rw [gQ (q.cons.getD i default)] at A9;omega)
  show Wq n (Lr q.cons q n) q.cons q (i:Int)=_
  generalize Lr q.cons q n=self
  simp only [Wq,Uu,Yu,AP,hR,zFH,zBA,zE2,zFm,zDH,zAB,XO,zA9];cases DA q (q.cons.getD i default) <;> rfl
theorem fR (hF:CP q) (hn:EM q<=n):valid n q=some (Cm (C2 q) 191):=by
 unfold valid fQ C2;have hv:=V4 (lo:=0) (up:=99) hF.values (show q.values.length<n by unfold EM at hn;omega);have hg:=n9 hF.nbrs (show 2*E1 q.nbrs+1<=n by unfold EM at hn;omega)
 by_cases c1:q.cells<1
 ·have: ¬ 1<=q.cells:=by omega
  simp [c1,this,Cm]
 have UN:1<=q.cells:=by omega
 by_cases c2:q.cells>256
 ·have: ¬ q.cells<=256:=by omega
  simp [c1,c2,this,Cm]
 have UM:q.cells<=256:=by omega
 by_cases c3:q.symbols<1
 ·have: ¬ 1<=q.symbols:=by omega
  simp [c1,c2,c3,this,Cm]
 have UL:1<=q.symbols:=by omega
 by_cases c4:q.symbols>16
 ·have: ¬ q.symbols<=16:=by omega
  simp [c1,c2,c3,c4,this,Cm]
 have UK:q.symbols<=16:=by omega
 simp only [zAA c1,zAA c2,zAA c3,zAA c4,zBC UN,zBC UM,zBC UL,zBC UK,zAD,zCE,hv,hg,zA9,bne,oS];cases ((q.values.length:Nat):Int)==q.symbols with
 | false=>rfl
 | true=>
 cases CW q.values 0 99 with
 | false=>rfl
 | true=>
 cases ((q.nbrs.length:Nat):Int)==q.cells with
 | false=>rfl
 | true=>
 cases I1 q.nbrs with
 | false=>rfl
 | true=>
 by_cases c5:((q.cons.length:Nat):Int)>4096
 ·have: ¬ q.cons.length<=4096:=by omega
  simp [c5,this,Cm]
 have UJ:q.cons.length<=4096:=by omega
 obtain ⟨r,r1,r2⟩:=qm hF UN UM UL UK UJ hn;simp only [X9,df,r1,zAA c5,zBC UJ,zA9,zAD,zCE,zCJ,zC5,zFW];cases ha:q.cons.all (DA q) with
 | false=>
  have:r>=0:=r2.2 ha;simp [this,Cm]
 | true=>
  have: ¬ r>=0:=fun h=>by rw [r2.1 h] at ha;cases ha
  simp [this,Cm]
theorem tR (hF:CP q) (h1:1<=q.cells) (h2:q.cells<=256) (h3:1<=q.symbols) (h4:q.symbols<=16) (h5:q.cons.length<=4096) (hn:EM q<=n):LP q n (.l1 0)=some (Cm (q.cons.all (DA q)) 191):=by
 have S:=IW (fun n i=>LP q n (.l1 i)) q.cons.length (q.cons.map Oh).sum (fun i=>if DA q (q.cons.getD i default) then none else some 191) (fun n i Fk hi=>?_) (n:=n) (by unfold EM at hn;omega)
 ·refine S.trans ?_;rw [MB,Rp (p:=DA q)];cases q.cons.all (DA q) with
  | false=>rfl
  | true=>
   obtain ⟨m,hm⟩: ∃ m,n-q.cons.length=m+1:=⟨n-q.cons.length-1,by unfold EM at hn;omega⟩;rw [hm];simp [LP,VG,Cm]
 ·have AP:(i:Int)<(q.cons.length:Int):=by omega
  have hR:AG ((i:Int)+1):=by rw [Ae];omega
  have CA:q.cons.getD i default∈q.cons:=by rw [u8,zBD hi];exact zB0 hi
  have A9:=Y5 CA;have XO:=uW (n:=n) (hF.cells _ CA) (hF.runs _ CA) h1 h2 h3 h4 (by rw [gQ (q.cons.getD i default)] at A9;omega);rw [uX q _ h1] at XO
  show VG n (LP q n) q (i:Int)=_
  generalize LP q n=self
  simp only [VG,AP,hR,zFH,zBA,zE2,zFm,zDH,zAB,XO,zA9];cases DA q (q.cons.getD i default) <;> rfl
theorem tS (hF:CP q) (hn:EM q<=n):VI n q=some (Cm (C2 q) 191):=by
 unfold VI iL C2;have hv:=UR (lo:=0) (up:=99) hF.values (show q.values.length<n by unfold EM at hn;omega);have hg:=i9 hF.nbrs (show 2*E1 q.nbrs+1<=n by unfold EM at hn;omega)
 by_cases c1:q.cells<1
 ·have: ¬ 1<=q.cells:=by omega
  simp [c1,this,Cm]
 have UN:1<=q.cells:=by omega
 by_cases c2:q.cells>256
 ·have: ¬ q.cells<=256:=by omega
  simp [c1,c2,this,Cm]
 have UM:q.cells<=256:=by omega
 by_cases c3:q.symbols<1
 ·have: ¬ 1<=q.symbols:=by omega
  simp [c1,c2,c3,this,Cm]
 have UL:1<=q.symbols:=by omega
 by_cases c4:q.symbols>16
 ·have: ¬ q.symbols<=16:=by omega
  simp [c1,c2,c3,c4,this,Cm]
 have UK:q.symbols<=16:=by omega
 simp only [zAA c1,zAA c2,zAA c3,zAA c4,zBC UN,zBC UM,zBC UL,zBC UK,zAD,zCE,hv,hg,zA9,bne,oS];cases ((q.values.length:Nat):Int)==q.symbols with
 | false=>rfl
 | true=>
 cases CW q.values 0 99 with
 | false=>rfl
 | true=>
 cases ((q.nbrs.length:Nat):Int)==q.cells with
 | false=>rfl
 | true=>
 cases I1 q.nbrs with
 | false=>rfl
 | true=>
 by_cases c5:((q.cons.length:Nat):Int)>4096
 ·have: ¬ q.cons.length<=4096:=by omega
  simp [c5,this,Cm]
 have UJ:q.cons.length<=4096:=by omega
 simp only [tR hF UN UM UL UK UJ hn,zAA c5,zBC UJ,zAD,zCE,zCJ]
theorem xn {k:Int} (h:1<=k/\ k<=9):([0,1,1,2,2,3,1,1,4,4]:List Int).getD k.toNat 0=GM k:=by
 rcases Nd h with h | h | h | h | h | h | h | h | h <;> subst h <;> rfl
theorem yW (hv:C2 q=true) {i:Int} (h0:0<=i) (hi:i<(q.cons.length:Int)):1<=(q.cons.getD i.toNat default).kind/\ (q.cons.getD i.toNat default).kind<=9:=by
 have A5:i.toNat<q.cons.length:=by omega
 have CA:q.cons.getD i.toNat default∈q.cons:=by rw [u8,zBD A5];exact zB0 A5
 exact Pb (mE ((Dp hv).2.2.2.2.2 _ CA))
theorem aw (hF:CP q) (hn:EM q<=n) (i:Int):Nc n q i=some (Hz q i):=by
 unfold Nc av Hz;rw [fR hF hn];cases hv:C2 q with
 | false=>rfl
 | true=>
  by_cases h0:i<0
  ·have: ¬ (0<=i/\ i<(q.cons.length:Int)):=by omega
   simp [Cm,h0,this]
  ·by_cases hi:i>=(q.cons.length:Int)
   ·have: ¬ (0<=i/\ i<(q.cons.length:Int)):=by omega
    simp [Cm,h0,hi,this]
   ·have hc:0<=i/\ i<(q.cons.length:Int):=by omega
    have hk:=yW hv hc.1 hc.2;have hg:(0<=i/\ i<(q.cons.length:Int))/\ (0<=(q.cons.getD i.toNat default).kind/\ (q.cons.getD i.toNat default).kind<((10:Nat):Int)):=⟨hc,by omega,by omega⟩;simp only [Cm,zDH,zA9,bne_self_eq_false,zAD,zAA h0,zAA hi,zAE hg,zAE hc,xn hk,Bool.true_eq_false,zFo]
theorem zC0 (hn:q.cons.length<n): ∃ b,Xw n q=some b:=by
 unfold Xw oN
 have loop:q.cons.length<=120 -> ∃ b,Kw q n (.l1 0)=some b:=fun hl=>by
  have S:=IW (fun n i=>Kw q n (.l1 i)) q.cons.length 0 (fun i=>if (!(decide (((q.cons.getD i default).cells.length:Int)>20))&&!(decide (((q.cons.getD i default).runs.length:Int)>10))) then none else some false) (fun n i _ hi=>?_) (n:=n) (by omega)
  ·rw [show Kw q n (.l1 0)=_ from S];rw [MB];split
   ·obtain ⟨m,hm⟩: ∃ m,n-q.cons.length=m+1:=⟨n-q.cons.length-1,by omega⟩;exact ⟨true,by rw [hm];simp [Kw,Xu]⟩
   ·exact ⟨false,rfl⟩
  ·have AP:(i:Int)<(q.cons.length:Int):=by omega
   have hR:AG ((i:Int)+1):=by rw [Ae];omega
   show Xu n (Kw q n) q (i:Int)=_
   generalize Kw q n=self
   simp only [Xu,AP,hR,zFH,zBA,zE2,zFm,zDH,zAB];cases decide (((q.cons.getD i default).cells.length:Int)>20) <;> cases decide (((q.cons.getD i default).runs.length:Int)>10) <;> rfl
 cases decide (q.cells>16) with
 | true=>exact ⟨_,rfl⟩
 | false=>
 cases decide (q.symbols>6) with
 | true=>exact ⟨_,rfl⟩
 | false=>
 cases decide (((q.values.length:Nat):Int)>8) with
 | true=>exact ⟨_,rfl⟩
 | false=>
 cases decide (((q.nbrs.length:Nat):Int)>20) with
 | true=>exact ⟨_,rfl⟩
 | false=>
 by_cases h:((q.cons.length:Nat):Int)>120
 ·rw [zBC h];exact ⟨_,rfl⟩
 ·rw [zAA h];exact loop (by omega)
theorem zCy {pos:List Int} (hn:q.cons.length<n): ∃ b,Tv n q pos=some b:=by
 obtain ⟨b,hb⟩:=zC0 hn;unfold Tv dT;rw [hb];cases b
 ·exact ⟨_,rfl⟩
 ·exact ⟨_,rfl⟩
end
end Go.Proofs.YtekkngkphejfcaaGreatDoor
namespace Go.Proofs.YtekkngkphejfcaaGreatDoor
abbrev zGF:=@BitVec.ofInt_natCast
abbrev zGv:=@Go.Lib.hid
end Go.Proofs.YtekkngkphejfcaaGreatDoor
namespace Go.Proofs.YtekkngkphejfcaaGreatDoor
open Go.RowKit
theorem qo (x k bT:Nat) (w:World) (Fx:((x:Int)==0)=false)
 (key:IntKind.u64.wrap (bits BinOp.and IntKind.u64 (x:Int) (IntKind.u64.wrap (-(x:Int)))*285870213051353865)/288230376151711744=(bT:Int))
 (hi:bT<64) (hk:k<64) (DS:w.cell? ⟨1,bT,none⟩=some (.int .u8 k)):
 Calls Tryz.prog 101 #[.int .u64 x] w fun e w'=>e= .returned (.int .i64 k)/\ w=w':=by
 go_enter Tryz.func101,Tryz.ntmps101
 go_wp2_with (simp only [key])
 go_ret
 exact ⟨rfl,rfl⟩
theorem qp (x:Nat) (hx:x<18446744073709551616) (Fx:x≠0) (w:World) (hT:MU w):
 Calls Tryz.prog 101 #[.int .u64 x] w fun e w'=>e= .returned (.int .i64 (Lib.ctz 64 x))/\ w=w':=by
 obtain ⟨XK,hk⟩:=Lib.lowest_bit 64 x Fx hx;obtain ⟨hi,zi⟩:=Lib.deBruijn64_at _ hk;have DS:=hT _ hi;rw [zi] at DS;exact qo x _ _ w (by simp;omega) (tz64_key x _ hx Fx XK) hi hk DS
theorem qn (x:Nat) (hx:x<18446744073709551616) (Fx:x≠0) (w:World) (hT:MU w):
 Calls Tryz.prog 70 #[.int .u64 x] w fun e w'=>e= .returned (.int .i64 (Lib.ctz 64 x))/\ w=w':=by
 have h1:=qp x hx Fx w hT
 go_enter Tryz.func70,Tryz.ntmps70
 go_wp2_with (go_at_call 101;refine h1.mono ?_;rintro e w' ⟨rfl,rfl⟩)
 go_ret
 exact ⟨rfl,rfl⟩
def Eh (x:Nat):List Nat:=(List.range 64).filter fun s=>x.testBit s
theorem gR:Eh 0= []:=by simp [Eh]
theorem xo (k m s:Nat):(2 ^ k*(2*m+1)).testBit s=(decide (k<=s)&&(2*m+1).testBit (s-k)):=by
 rw [zFn,Nat.testBit_mul_two_pow]
theorem xQ (m s:Nat):(2*m+1).testBit s=(decide (s=0)||(2*m).testBit s):=by
 cases s with
 | zero=>simp [Nat.testBit_zero]
 | succ s=>simp [Nat.testBit_succ];congr 1;omega
theorem uz: ∀ k,k<64 -> List.range 64=List.range k++k::List.range' (k+1) (63-k):=by decide+kernel
theorem gT (x:Nat) (hx:x<18446744073709551616) (Fx:x≠0):Eh x=Lib.ctz 64 x::Eh (x&&& (x-1)):=by
 have hc:Lib.ctz 64 x=Lib.ctzFrom 64 x:=by simp [Lib.ctz,Fx]
 obtain ⟨m,hm,hk⟩:=Lib.ctzFrom_spec 64 x (by omega) (by simpa using hx);rw [hc]
 generalize Lib.ctzFrom 64 x=k at*
 have hb: ∀ s,x.testBit s=(decide (k<=s)&&(decide (s-k=0)||(2*m).testBit (s-k))):=fun s=>by rw [hm,xo,xQ]
 have hy: ∀ s,(x&&& (x-1)).testBit s=(x.testBit s&&decide (s≠k)):=by
  intro s;have hp:0<2 ^ k:=Nat.two_pow_pos k
  have Np:x-1=2 ^ k*(2*m)+(2 ^ k-1):=by
   rw [hm,Nat.mul_add,zE0];omega
  have nW:(x-1).testBit s=if s<k then (2 ^ k-1).testBit s else (2*m).testBit (s-k):=by
   rw [Np,Nat.testBit_two_pow_mul_add _ (by omega)]
  rw [Nat.testBit_and,nW,hb]
  by_cases h1:s<k
  ·rw [zAA (by omega: ¬ k<=s)];simp
  ·rw [zBP h1]
   by_cases h2:s=k
   ·subst h2;simp
   ·rw [zBC (by omega:k<=s),zAA (by omega: ¬ s-k=0)];simp [h2]
 unfold Eh;have hr:List.range 64=List.range k++k::List.range' (k+1) (63-k):=uz k hk;rw [hr];simp only [List.filter_append,List.filter_cons]
 have h1: ∀ y:Nat,(∀ s,s<k -> y.testBit s=false) -> (List.range k).filter (fun s=>y.testBit s)= []:=fun y h=>by
  rw [List.filter_eq_nil_iff];intro s hs;simp [h s (zBc.1 hs)]
 rw [h1 x (fun s hs=>by rw [hb];simp;omega),h1 (x&&& (x-1)) (fun s hs=>by rw [hy,hb];simp;omega)];have h2:x.testBit k=true:=by rw [hb];simp
 have h3:(x&&& (x-1)).testBit k=false:=by rw [hy];simp
 simp only [h2,h3,zFD,zDH,zCQ,zFo]
 congr 1
 apply List.filter_congr;intro s hs;rw [hy];have:=List.mem_range'_1.1 hs;simp;omega
theorem zEd (x:Nat) (hx:x<9223372036854775808) (Fx:x≠0):bits .and .i64 (x:Int) ((x:Int)-1)=((x&&& (x-1):Nat):Int):=by
 have e:((x:Int)-1)=((x-1:Nat):Int):=by omega
 have AP:x&&& (x-1)<=x:=Nat.and_le_left;rw [e]
 have h1:(BitVec.ofInt 64 (x:Int)).toNat=x:=by
  rw [zGF,BitVec.toNat_ofNat];exact zGM (by omega)
 have h2:(BitVec.ofInt 64 ((x-1:Nat):Int)).toNat=x-1:=by
  rw [zGF,BitVec.toNat_ofNat];exact zGM (by omega)
 show IntKind.i64.wrap ((BitVec.ofInt 64 (x:Int)&&& BitVec.ofInt 64 ((x-1:Nat):Int)).toNat:Int)=_
 rw [BitVec.toNat_and,h1,h2];have hm:((x&&& (x-1):Nat):Int) % 2 ^ 64=((x&&& (x-1):Nat):Int):=by omega
 simp only [IntKind.wrap,IntKind.signed,IntKind.bits,hm];rw [zBP (by rw [zCE,zCK];omega)]
def g8 (w:World) (b o:Nat):Nat:=match w.cell? ⟨b,o,none⟩ with
 | some (.int _ x)=>x.toNat
 | _=>0
def U3 (s:Nat):Array Value:=#[.int .i64 s]
set_option maxRecDepth 100000 in
set_option maxHeartbeats 4000000 in
theorem q7 (set b o:Nat) (w:World) (W9:set<9223372036854775808) (hT:MU w) (hb:w.cell? ⟨b,o,none⟩=some (.int .i64 set)) (It:w.frozen? ⟨b,o,none⟩=false) (Ep:b≠1):
 JI Tryz.prog 69 #[.pointer (some ⟨b,o,none⟩)] ((Eh set).map U3) (fun k=>k=b) (fun k=>k=1) w:=by
 intro l J Jx G W hJ hJx hU hG dE hY h0;have HY:=zGv hY;clear hY;have dF:G b:=hG b rfl;have hbW:W.cell? ⟨b,o,none⟩=some (.int .i64 set):=hU.cell (fun h=>h (.inl rfl)) hb
 have hfW:W.frozen? ⟨b,o,none⟩=false:=by
  rw [World.frozen?_of_block (hU.block b (zFS w _ hb) (fun h=>h (.inl rfl)))];exact It
 have hTW:MU W:=fun j hj=>hU.cell (fun h=>h (.inr rfl)) (hT j hj)
 refine callsIn_of_wp Tryz.func69 rfl trivial ?_ rfl;simp only [Tryz.ntmps69,zGd,zFB,zFF,Nat.reduceAdd,Nat.reduceSub,Array.replicate_succ,Array.replicate_zero,List.push_toArray,List.append_toArray,zFD,List.cons_append]
 gi_wp2
 gi_loopw [3,4,5,6,7,8,9,10,11,12,13,14] (fun _ _ _ _ _ _ _ _ _ _ _ _ wr=>∃ (i x:Nat),W.heap.size<=wr.heap.size/\ x<9223372036854775808/\ i<=(Eh set).length/\ Hid ((Eh set).drop i=Eh x)/\ Hid (J i G wr)/\ wr.cell? ⟨b,o,none⟩=some (.int .i64 x)/\ wr.frozen? ⟨b,o,none⟩=false/\ Hid (MU wr))
  (fun _ _ _ _ _ _ _ _ _ _ _ _ wr=>g8 wr b o)
 case atStart=>exact ⟨0,set,zBa _,W9,zE6 _,zGv rfl,zGv h0,hbW,hfW,zGv hTW⟩
 case round=>
  obtain ⟨i,x,A9,hx,Bw,hd,hj,hc,hf,ht⟩:=hrel
  by_cases Fx:x=0
  ·subst Fx
   have CK:i=(Eh set).length:=by
    have:=congrArg List.length hd.out;rw [zGP,gR,zFF] at this;omega
   gi_wp2
   go_end0
   exact ⟨⟨_,rfl⟩,.inl ⟨G,CK▸hj.out⟩⟩
  ·have N0:((x:Int)==0)=false:=by simp [Fx]
   have OD:(Eh set).drop i=Lib.ctz 64 x::Eh (x&&& (x-1)):=by rw [hd.out,gT x (by omega) Fx]
   have CK:i<(Eh set).length:=by
    rcases zFQ i (Eh set).length with h | h
    ·exact h
    ·rw [zEM h] at OD;cases OD
   have hie:(Eh set)[i]=Lib.ctz 64 x:=by
    have:=zB2 CK;rw [OD] at this;injection this with h1 h2;exact h1.symm
   obtain ⟨fn,tmps,pk,body,hy,hR⟩:=HY.out i (U3 (Lib.ctz 64 x)) G wr (by rw [zBn,zBD CK,hie];rfl) hj.out;have hR':=zGv hR;clear hR;unfold U3 at hy;have zh:=zGv (qn x (by omega) Fx wr ht.out);have zBu:=zGv OD;clear OD hd
   gi_wp2_with (first | refine ⟨trivial,rfl,?_⟩ | (gi_at_call 70;refine (callsIn_wide.2 zh.out).mono ?_;rintro e w' ⟨rfl,rfl⟩))
   refine ⟨rfl,hR'.out.mono ?_⟩;rintro e W1 ⟨HJ,(⟨rfl,hj1⟩ | ⟨rfl,Np⟩)⟩
   ·have XU:W1.cell? ⟨b,o,none⟩=some (.int .i64 x):=HJ.cell (fun h=>h (.inl dF)) hc
    have hf1:W1.frozen? ⟨b,o,none⟩=false:=by
     rw [World.frozen?_of_block (HJ.block b (zFS wr _ hc) (fun h=>h (.inl dF)))];exact hf
    have ma:MU W1:=fun j hj=>HJ.cell (fun h=>h (.inr rfl)) (ht.out j hj)
    have Cu:AV G W1 (W1.setCell ⟨b,o,none⟩ (.int .i64 ((x&&& (x-1):Nat):Int))):=(AV.refl G W1).setCell (fun _=>dF) _;have mc:=zBO A9 (zBO HJ.size Cu.size);have Gl:=zGv (hJ _ _ _ _ _ hj1 Cu (fun k h=>.inl h) (fun k h=>zBY (dE k h) mc))
    have zj:Hid (MU (W1.setCell ⟨b,o,none⟩ (.int .i64 ((x&&& (x-1):Nat):Int)))):=zGv fun j hj=>
     ((AV.refl (fun k=>k=b) W1).setCell (fun _=>rfl) _).cell (fun e=>Ep e.symm) (ma j hj)
    have AP:x&&& (x-1)<x:=Nat.lt_of_le_of_lt Nat.and_le_right (by omega);clear Cu ma
    gi_wp2
    rw [zEd x hx Fx];have Iv:(W1.setCell ⟨b,o,none⟩ (.int .i64 ((x&&& (x-1):Nat):Int))).cell? ⟨b,o,none⟩=some (.int .i64 ((x&&& (x-1):Nat):Int)):=World.cell?_setCell_same' W1 _ _ (by rw [XU];rfl);refine ⟨⟨_,_,_,_,_,_,_,_,_,_,_,_,⟨i+1,x&&& (x-1),mc,by omega,CK,zGv ?_,Gl,Iv,?_,zj⟩,rfl⟩,?_⟩
    ·rw [←List.drop_drop,zBu.out];rfl
    ·rw [World.frozen?_setCell];exact hf1
    ·unfold g8;rw [Iv,hc]
     show ((x&&& (x-1):Nat):Int).toNat<(x:Int).toNat
     omega
   ·gi_wp2
    refine bodyPost_ret (results_none rfl _ _ _) rfl ?_;exact ⟨⟨_,rfl⟩,.inr ⟨G,Np⟩⟩
def BK (x:Int):List Int:=(Eh x.toNat).map fun (s:Nat)=>(s:Int)
theorem zDD (x:Int):(BK x).map B7=(Eh x.toNat).map U3:=by
 unfold BK;rw [List.map_map];rfl
theorem qz {x:Int} (hx:(0:Int)<=x/\ x<9223372036854775808) (w:World) (b o:Nat) (u:Value) (hg:GG.gi w) (Gk:GG.ng<=b) (hb: ∃ cs t,w.heap[b]? =some (.cells cs t (0,0))) (hc:w.cell? ⟨b,o,none⟩=some u) (hr:u= .int .i64 x):
 JI Tryz.prog 69 #[.pointer (some ⟨b,o,none⟩)] ((BK x).map B7) (fun k=>k=b) (fun k=>k=1) w:=by
 rw [zDD];obtain ⟨cs,t,hb⟩:=hb;have Gk:2<=b:=Gk;refine q7 x.toNat b o w (by omega) hg.1 ?_ ?_ (by omega)
 ·rw [hc,hr];congr 2;omega
 ·unfold World.frozen?;simp [hb]
end Go.Proofs.YtekkngkphejfcaaGreatDoor
namespace Go.Proofs.YtekkngkphejfcaaGreatDoor
open Go.RowKit
theorem ES.iterOf {P:Program} {Γ:A6} {f gf:Nat} {ds:List DV} {c:Nat -> DV} {d:DV} {encs:List (Array Value)} {Rd:Nat -> Prop} (h0:ES P Γ f ds [] (.fn gf 1 c) [some (.cells [d])] true) (hc:c 0= .ref 0 0) (Fl:ds.all HF=true)
 (eg: ∀ args W,(callFunc gf args).run P W= .ok (.enter gf args) W)
 (yL: ∀ (w:World) (b o:Nat) (u:Value),Γ.gi w -> Γ.ng<=b -> (∃ cs t,w.heap[b]? =some (.cells cs t (0,0))) -> w.cell? ⟨b,o,none⟩=some u -> AQ (fun _=>False) w d [] u -> JI P gf #[.pointer (some ⟨b,o,none⟩)] encs (fun k=>k=b) Rd w)
 (hd:PH d=true) (Jy: ∀ b,Rd b -> b<Γ.ng) (h:DH):ES P Γ f ds h (.it h.length) (h++[some (.iter encs)]) true:=by
 refine ⟨h0.1,fun N ρ w args HR CU=>?_⟩;refine (h0.2 (MS N h ρ) [] w args (Po (fun b hb=>HR.lt2 hb) HR.gi) ⟨CU.1,fun i hi=>?_⟩).mono ?_
 ·have hx:=PO (zBT.1 Fl (ds.getD i .any) (by simp [hi]));exact AQ.out _ (DR (fun b hb=>Od.1 hb) []) (hx _ _ _ _ (CU.2 i hi))
 ·rintro e w' ⟨v,rfl,⟨⟨ρ',g1,g2,g3,g4⟩,g5⟩⟩;have hE:=g5 rfl;obtain ⟨p,hp,C8⟩:=g1.obj 0 _ rfl;have C8:Ag w' p 1 _:=C8;have hf: ∀ b,p.foot b -> w.heap.size<=b:=fun b hb=>(g3.grow b ⟨0,_,p,rfl,hp,hb⟩).resolve_left fun ⟨k,o',p',q1,_⟩=>by simp at q1
  obtain ⟨lb,hv,hl,XL⟩:=g2;obtain ⟨u,hu,hr⟩:=XL 0 (by omega);rw [hc] at hr;obtain ⟨p',BE,H4⟩:=hr;have ep:p'=p:=zBK (BE.symm.trans hp);subst ep
  have zBU:lb= #[.pointer (some ⟨p'.blk,p'.off,none⟩)]:=by
   apply Array.ext
   ·simp [hl]
   ·intro i h1 h2;have:i=0:=by omega
    subst this;have:=zBG.1 hu;obtain ⟨_,e⟩:=this;rw [e,H4];rfl
  subst zBU;obtain ⟨u2,c1,c2⟩:=Ag.cell C8 (j:=0) (by omega);have D7:p'.foot=fun b=>b=p'.blk:=C8.1
  have Gk:Γ.ng<=w.heap.size:=Γ.lo _ HR.gi;have DS:=g1.cel 0 _ p' p'.blk rfl hp (by rw [D7]);refine ⟨v,rfl,⟨⟨ρ++[{ p' with val:=v }],HR.snoc hE (fun b hb=>⟨hf b hb,(g1.cel 0 _ p' b rfl hp hb).2.2⟩) ?_,⟨{ p' with val:=v },by rw [←HR.len];simp,rfl⟩,BL.snoc HR hE hf,fun _ _ h=>D9 h⟩,g5⟩⟩;obtain ⟨_,cs,t,D8,_⟩:=C8;refine ⟨gf,_,Rd,⟨hv,eg⟩,?_,fun b hb=>?_,fun b hb=>?_⟩
  ·show JI P gf _ encs p'.foot Rd w'
   rw [D7];refine yL w' _ _ u2 g1.gi DS.1 ⟨cs,t,D8⟩ (by simpa using c1) ?_;exact AQ.out _ (DR (fun b hb=>hb.elim) []) (aJ hd c2)
  ·have C9:=Jy b hb;refine ⟨fun hm=>?_,zBY (zBY C9 Gk) hE.size⟩;rcases hm with hm | hm
   ·have:=(HR.nlt b hm).2;omega
   ·rcases MO.snoc HR hm with hm | hm
    ·have:=HR.low hm;omega
    ·have:=hf b hm;omega
  ·obtain ⟨_,_,c,t,z,h4⟩:=g1.cel 0 _ p' b rfl hp hb;exact (zBG.1 h4).1
end Go.Proofs.YtekkngkphejfcaaGreatDoor
namespace Go.Proofs.YtekkngkphejfcaaGreatDoor
open Go.RowKit
set_option maxRecDepth 100000
set_option maxHeartbeats 40000000
inductive X7 where
 | l1 (x7:Int)
def T6 (n:Nat) (self:X7 -> Option Bool) (sets:List Int) (x7:Int):Option Bool:=
 bif (decide (x7<(sets.length:Int))) then
  if 0<=x7/\ x7<(sets.length:Int) then
   bif ((sets.getD ((x7).toNat) 0)==0) then
    some true
   else
    if AG (x7+1) then
     self (.l1 (x7+1))
    else none
  else none
 else
  some false
def o9 (n:Nat) (self:X7 -> Option Bool) (sets:List Int):Option Bool:=
 self (.l1 0)
def QU (sets:List Int):Nat -> X7 -> Option Bool
 | 0,_=>none
 | n+1,.l1 x7=>T6 n (QU sets n) sets x7
def X8 (n:Nat) (sets:List Int):Option Bool:=o9 n (QU sets n) sets
def zDW (n B:Nat) (N:Yd 0) (sets:List Int) (r:Bool):X7 -> Prop
 | .l1 x7=>∀ m0:Nat,n<=m0 -> TW B N (FQ Tryz.f72 0 (.bool r) []) (Ah m0 (Ap (AW Tryz.f72) 0 [])) ⟨AM 14 [(5,.ints sets),(6,.i (sets.length:Int)),(7,.i x7)],[]⟩
theorem zDX (B:Nat) (N:Yd 0) (sets:List Int):Al (QU sets) (zDW · B N sets):=ia (fun _=>rfl) fun n AF pt r h=>by
 cases pt
 case l1 x7=>
  intro m0 AB;refine rd AB fun m0 AB=>?_
  revert r;apply gO;exact bi 8 (gi (bi 12 (lE AE [2] []) (gw 13 (lG AE [] (AF _ _ · m0 AB))))) (lE AE [2] [])
theorem zDU {n:Nat} {sets:List Int} {r:Bool} (h:X8 n sets=some r):EQ 72 [.ints sets] [] (.bool r) [] true:=by
 refine ot Tryz.func72 fun B N=>?_
 revert r;apply gO;exact lN AE [] ((zDX B N sets n) _ _ · n Nat.le.refl)
def bJ (n:Nat) (pos:List Int):Option Bool:=
 (X8 n pos).bind fun y1=>
  some y1
def Gi (n:Nat) (pos:List Int):Option Bool:=bJ n pos
theorem Pe {n:Nat} {pos:List Int} {r:Bool} (h:Gi n pos=some r):EQ 51 [.ints pos] [] (.bool r) [] true:=by
 unfold Gi bJ at h;refine ot Tryz.func51 fun B N=>?_
 revert r;apply gO;exact cf zDU [] fun _=>lE AE [2] []
inductive WC where
 | l1 (x20:Int)
def Sh (n:Nat) (self:WC -> Option Int) (q:AA) (pos:List Int) (x20:Int):Option Int:=
 bif (decide (x20<(pos.length:Int))) then
  if 0<=x20/\ x20<(pos.length:Int) then
   bif (decide ((pos.getD ((x20).toNat) 0)<0)) then
    some 250
   else
    if 0<=q.symbols/\ q.symbols<=(IntKind.i64.bits:Int) then
     bif (decide ((pos.getD ((x20).toNat) 0)>=(IntKind.i64.wrap (1*2 ^ (q.symbols).toNat)))) then
      some 250
     else
      if AG (x20+1) then
       self (.l1 (x20+1))
      else none
    else none
  else none
 else
  some 0
def kG (n:Nat) (self:WC -> Option Int) (q:AA) (pos:List Int):Option Int:=
 (valid n q).bind fun y1=>
  bif (y1 != 0) then
   some y1
  else
   bif ((pos.length:Int) != q.cells) then
    some 250
   else
    self (.l1 0)
def NH (q:AA) (pos:List Int):Nat -> WC -> Option Int
 | 0,_=>none
 | n+1,.l1 x20=>Sh n (NH q pos n) q pos x20
def NI (n:Nat) (q:AA) (pos:List Int):Option Int:=kG n (NH q pos n) q pos
def wj (n B:Nat) (N:Yd 0) (q:AA) (pos:List Int) (r:Int):WC -> Prop
 | .l1 x20=>∀ m0:Nat,n<=m0 -> TW B N (FQ Tryz.f44 0 (.i r) []) (Ah m0 (Ap (AW Tryz.f44) 0 [])) ⟨AM 34 [(2,.ref 0 0),(18,.ints pos),(19,.i (pos.length:Int)),(20,.i x20)],[some (.cells (AD q))]⟩
theorem wl (B:Nat) (N:Yd 0) (q:AA) (pos:List Int):Al (NH q pos) (wj · B N q pos):=ia (fun _=>rfl) fun n AF pt r h=>by
 cases pt
 case l1 x20=>
  intro m0 AB;refine rd AB fun m0 AB=>?_
  revert r;apply gO;exact bi 21 (gi (bi 25 (lE AE [4] []) (gi (bi 31 (lE AE [4] []) (gw 33 (lG AE [0] (AF _ _ · m0 AB))))))) (lE AE [4] [])
theorem aM {n:Nat} {q:AA} {pos:List Int} {r:Int} (h:NI n q pos=some r):EQ 44 [.agg 5 (L1 (AD q)),.ints pos] [] (.i r) [] true:=by
 refine ot Tryz.func44 fun B N=>?_
 revert r;apply gO;exact cf fP [some (.cells (AD q))] fun _=>bi 11 (lE AE [4] []) (bi 17 (lE AE [4] []) (lN AE [0] ((wl B N q pos n) _ _ · n Nat.le.refl)))
def pH (n:Nat) (s_:List Int):Option ((List Int)):=
 if 0<s_.length/\ ((True)/\ (0=0/\ 0=([]:List Int).length)/\ ([]:List Int).length+s_.length<=A7) then
  if ([]:List Int).length+s_.length=(([]:List Int)++s_).length then
   some (([]:List Int)++s_)
  else none
 else none
def YH (n:Nat) (s_:List Int):Option ((List Int)):=pH n s_
theorem zDw {n:Nat} {s_:List Int} {r:(List Int)} (h:YH n s_=some r):EQ 66 [.ints s_] [] (.msl 0 1 0 r.length) [some (.ints r)] true:=by
 refine ot Tryz.func66 fun B N=>?_
 revert r;apply gO;exact gc (gi (gi (gn fun g2=>lF fun p=>el AE [2] [1] p [] H0 [.msl 0 1 0 (([]:List Int).length+s_.length)] (AS.mslN g2))))
def dl (n:Nat) (s_:List Bool):Option ((List Bool)):=
 if 0<s_.length/\ ((True)/\ (0=0/\ 0=([]:List Bool).length)/\ ([]:List Bool).length+s_.length<=A7) then
  if ([]:List Bool).length+s_.length=(([]:List Bool)++s_).length then
   some (([]:List Bool)++s_)
  else none
 else none
def OP (n:Nat) (s_:List Bool):Option ((List Bool)):=dl n s_
theorem pI {n:Nat} {s_:List Bool} {r:(List Bool)} (h:OP n s_=some r):EQ 109 [.bools s_] [] (.msl 0 1 0 r.length) [some (.bools r)] true:=by
 refine ot Tryz.func109 fun B N=>?_
 revert r;apply gO;exact gc (gi (gi (gn fun g2=>lF fun p=>el AE [2] [1] p [] H0 [.msl 0 1 0 (([]:List Bool).length+s_.length)] (AS.mslN g2))))
def dp (n:Nat) (q:AA) (i:Int) (pos:List Int):Option Int:=
 (Nc n q i).bind fun y1=>
  bif (y1.2 != 0) then
   some y1.2
  else
   (NI n q pos).bind fun y2=>
    some y2
def QX (n:Nat) (q:AA) (i:Int) (pos:List Int):Option Int:=dp n q i pos
theorem zDx {n:Nat} {q:AA} {i:Int} {pos:List Int} {r:Int} (h:QX n q i pos=some r):EQ 35 [.agg 5 (L1 (AD q)),.i i,.ints pos] [] (.i r) [] true:=by
 unfold QX dp at h;refine ot Tryz.func35 fun B N=>?_
 revert r;apply gO;exact cf ar [some (.cells (AD q))] fun _=>bi 16 (lE AE [6] []) (cf aM [some (.cells (AD q))] fun _=>lE AE [6] [])
inductive XZ where
 | l1 (Aj:Int)
def Tk (n:Nat) (self:XZ -> Option Int) (g_:List (List Int)) (sets:List (List Bool)) (Aj:Int):Option Int:=
 bif (decide (Aj<(sets.length:Int))) then
  if 0<=Aj/\ Aj<(sets.length:Int) then
   bif ((((sets.getD ((Aj).toNat) []).length:Nat):Int) != (g_.length:Int)) then
    some 1
   else
    if AG (Aj+1) then
     self (.l1 (Aj+1))
    else none
  else none
 else
  some 0
def nv (n:Nat) (self:XZ -> Option Int) (g_:List (List Int)) (sets:List (List Bool)):Option Int:=
 (Tn n g_).bind fun y1=>
  bif (y1 != 0) then
   some y1
  else
   self (.l1 0)
def P9 (g_:List (List Int)) (sets:List (List Bool)):Nat -> XZ -> Option Int
 | 0,_=>none
 | n+1,.l1 Aj=>Tk n (P9 g_ sets n) g_ sets Aj
def L7 (n:Nat) (g_:List (List Int)) (sets:List (List Bool)):Option Int:=nv n (P9 g_ sets n) g_ sets
def zCR (n B:Nat) (N:Yd 0) (g_:List (List Int)) (sets:List (List Bool)) (r:Int):XZ -> Prop
 | .l1 Aj=>∀ m0:Nat,n<=m0 -> TW B N (FQ Tryz.f111 0 (.i r) []) (Ah m0 (Ap (AW Tryz.f111) 0 [])) ⟨AM 25 [(0,.sl 1 g_.length (Aw A8 g_)),(13,.sl 1 sets.length (Aw YM sets)),(14,.i (sets.length:Int)),(15,.i Aj)],[]⟩
theorem zCS (B:Nat) (N:Yd 0) (g_:List (List Int)) (sets:List (List Bool)):Al (P9 g_ sets) (zCR · B N g_ sets):=ia (fun _=>rfl) fun n AF pt r h=>by
 cases pt
 case l1 Aj=>
  intro m0 AB;refine rd AB fun m0 AB=>?_
  revert r;apply gO;exact bi 16 (gi (bi 23 (lE AE [4] []) (gw 24 (lG AE [] (AF _ _ · m0 AB))))) (lE AE [4] [])
theorem nt {n:Nat} {g_:List (List Int)} {sets:List (List Bool)} {r:Int} (h:L7 n g_ sets=some r):EQ 111 [.sl 1 g_.length (Aw A8 g_),.sl 1 sets.length (Aw YM sets)] [] (.i r) [] true:=by
 refine ot Tryz.func111 fun B N=>?_
 revert r;apply gO;exact cf n7 [] fun _=>bi 11 (lE AE [4] []) (lN AE [] ((zCS B N g_ sets n) _ _ · n Nat.le.refl))
end Go.Proofs.YtekkngkphejfcaaGreatDoor
namespace Go.Proofs.YtekkngkphejfcaaGreatDoor
open Go.RowKit
set_option maxRecDepth 100000
set_option maxHeartbeats 40000000
theorem tA:Af (Ax Tryz.f82 0) [] (List.range 18) [18]:=by unfold Af;kernel_rfl
def rh:BJ:=fun i=>match i with
 | 0=>.ord [] (List.range 18) [18]
 | _=>.no
def am (n:Nat) (cell ss:Int) (c:AC) (q:AA) (pos:List Int) (ln:Nat) (lost:List Int):Option ((List Int)):=
 if (0<=cell/\ cell<(ln:Int))/\ 0+((cell).toNat)<lost.length/\ (0<=cell/\ cell<(pos.length:Int)) then
  some (lost.set (0+((cell).toNat)) (bits .or .i64 (lost.getD (0+((cell).toNat)) 0) (bits .and .i64 (pos.getD ((cell).toNat) 0) ss)))
 else none
def DJ (n:Nat) (cell ss:Int) (c:AC) (q:AA) (pos:List Int) (ln:Nat) (lost:List Int):Option ((List Int)):=am n cell ss c q pos ln lost
theorem Fv {n:Nat} {cell ss:Int} {c:AC} {q:AA} {pos:List Int} {ln:Nat} {lost:List Int} {r:(List Int)} (h:DJ n cell ss c q pos ln lost=some r):EQ 82 [.ref 0 0,.i cell,.i ss] [some (.cells (AH c++AD q++[.ints pos,.msl 1 1 0 ln])),some (.ints lost)] (.tup 0 (fun j=>([]:List DV).getD j .any)) [some (.cells (AH c++AD q++[.ints pos,.msl 1 1 0 ln])),some (.ints r)] false:=by
 refine ot Tryz.func82 fun B N=>?_
 revert r;apply gO;exact jg tA (gc (gn fun g0=>jg g0 (gc (gn fun g1=>jg g1 (gi (jg g0 (jg g1 (lE rh [] [0,1]))))))))
theorem sw:Af (Ax Tryz.f83 0) [] (List.range 22) [22]:=by unfold Af;kernel_rfl
def rf:BJ:=fun i=>match i with
 | 0=>.ord [] (List.range 22) [22]
 | _=>.no
def aV (n:Nat) (cell:Int) (c:AC) (q:AA) (pos:List Int) (ln:Nat) (lost:List Int):Option ((List Int)):=
 if (0<=cell/\ cell<(ln:Int))/\ 0+((cell).toNat)<lost.length/\ (0<=cell/\ cell<(pos.length:Int)) then
  some (lost.set (0+((cell).toNat)) (bits .or .i64 (lost.getD (0+((cell).toNat)) 0) (bits .andNot .i64 (pos.getD ((cell).toNat) 0) c.set)))
 else none
def GJ (n:Nat) (cell:Int) (c:AC) (q:AA) (pos:List Int) (ln:Nat) (lost:List Int):Option ((List Int)):=aV n cell c q pos ln lost
theorem Lm {n:Nat} {cell:Int} {c:AC} {q:AA} {pos:List Int} {ln:Nat} {lost:List Int} {r:(List Int)} (h:GJ n cell c q pos ln lost=some r):EQ 83 [.ref 0 0,.i cell] [some (.cells (AH c++AD q++[.ints pos,.msl 1 1 0 ln])),some (.ints lost)] (.tup 0 (fun j=>([]:List DV).getD j .any)) [some (.cells (AH c++AD q++[.ints pos,.msl 1 1 0 ln])),some (.ints r)] false:=by
 refine ot Tryz.func83 fun B N=>?_
 revert r;apply gO;exact jg sw (gc (gn fun g0=>jg g0 (gc (gn fun g1=>jg g1 (gi (jg g0 (jg g1 (lE rf [] [0,1]))))))))
inductive T5 where
 | l1 (x3 x4 BB:Int)
 | l2 (x3 x4 B4:Int) (o1:List Int)
def T4 (n:Nat) (self:T5 -> Option (Bool×(List Int))) (c:AC) (q:AA) (pos:List Int) (ln:Nat) (lost:List Int) (x3 x4 BB:Int):Option (Bool×(List Int)):=
 bif (decide (BB<(c.cells.length:Int))) then
  if (0<=BB/\ BB<(c.cells.length:Int))/\ (0<=(c.cells.getD ((BB).toNat) 0)/\ (c.cells.getD ((BB).toNat) 0)<(pos.length:Int))/\ AG ((pos.getD ((c.cells.getD ((BB).toNat) 0).toNat) 0)-1) then
   bif ((bits .and .i64 (pos.getD ((c.cells.getD ((BB).toNat) 0).toNat) 0) ((pos.getD ((c.cells.getD ((BB).toNat) 0).toNat) 0)-1))==0) then
    if AG (BB+1) then
     self (.l1 (bits .or .i64 x3 (pos.getD ((c.cells.getD ((BB).toNat) 0).toNat) 0)) (bits .or .i64 x4 (bits .and .i64 x3 (pos.getD ((c.cells.getD ((BB).toNat) 0).toNat) 0))) (BB+1))
    else none
   else
    if AG (BB+1) then
     self (.l1 x3 x4 (BB+1))
    else none
  else none
 else
  self (.l2 x3 x4 0 lost)
def T3 (n:Nat) (self:T5 -> Option (Bool×(List Int))) (c:AC) (q:AA) (pos:List Int) (ln:Nat) (lost:List Int) (x3 x4 B4:Int) (o1:List Int):Option (Bool×(List Int)):=
 bif (decide (B4<(c.cells.length:Int))) then
  if (0<=B4/\ B4<(c.cells.length:Int))/\ (0<=(c.cells.getD ((B4).toNat) 0)/\ (c.cells.getD ((B4).toNat) 0)<(pos.length:Int))/\ AG ((pos.getD ((c.cells.getD ((B4).toNat) 0).toNat) 0)-1) then
   bif ((bits .and .i64 (pos.getD ((c.cells.getD ((B4).toNat) 0).toNat) 0) ((pos.getD ((c.cells.getD ((B4).toNat) 0).toNat) 0)-1))==0) then
    (DJ n (c.cells.getD ((B4).toNat) 0) (bits .or .i64 (bits .andNot .i64 x3 (pos.getD ((c.cells.getD ((B4).toNat) 0).toNat) 0)) x4) c q pos ln o1).bind fun y1=>
     if AG (B4+1) then
      self (.l2 x3 x4 (B4+1) y1)
     else none
   else
    (DJ n (c.cells.getD ((B4).toNat) 0) x3 c q pos ln o1).bind fun y1=>
     if AG (B4+1) then
      self (.l2 x3 x4 (B4+1) y1)
     else none
  else none
 else
  some (true,o1)
def oz (n:Nat) (self:T5 -> Option (Bool×(List Int))) (c:AC) (q:AA) (pos:List Int) (ln:Nat) (lost:List Int):Option (Bool×(List Int)):=
 self (.l1 0 0 0)
def J1 (c:AC) (q:AA) (pos:List Int) (ln:Nat) (lost:List Int):Nat -> T5 -> Option (Bool×(List Int))
 | 0,_=>none
 | n+1,.l1 x3 x4 BB=>T4 n (J1 c q pos ln lost n) c q pos ln lost x3 x4 BB
 | n+1,.l2 x3 x4 B4 o1=>T3 n (J1 c q pos ln lost n) c q pos ln lost x3 x4 B4 o1
def QT (n:Nat) (c:AC) (q:AA) (pos:List Int) (ln:Nat) (lost:List Int):Option (Bool×(List Int)):=oz n (J1 c q pos ln lost n) c q pos ln lost
def zDR (n B:Nat) (N:Yd 2) (c:AC) (q:AA) (pos:List Int) (ln:Nat) (lost:List Int) (r:Bool×(List Int)):T5 -> Prop
 | .l1 x3 x4 BB=>∀ m0:Nat,n<=m0 -> TW B N (FQ Tryz.f57 2 (.bool r.1) [some (.cells (AH c++AD q++[.ints pos,.msl 1 1 0 ln])),some (.ints r.2)]) (Ah m0 (Ap (AW Tryz.f57) 0 [])) ⟨AM 77 [(0,.ref 0 0),(3,.i x3),(4,.i x4),(15,.ints c.cells),(16,.i (c.cells.length:Int)),(17,.i BB)],[some (.cells (AH c++AD q++[.ints pos,.msl 1 1 0 ln])),some (.ints lost)]⟩
 | .l2 x3 x4 B4 o1=>∀ m0:Nat,n<=m0 -> TW B N (FQ Tryz.f57 2 (.bool r.1) [some (.cells (AH c++AD q++[.ints pos,.msl 1 1 0 ln])),some (.ints r.2)]) (Ah m0 (Ap (AW Tryz.f57) 2 [])) ⟨AM 77 [(0,.ref 0 0),(3,.i x3),(4,.i x4),(46,.ints c.cells),(47,.i (c.cells.length:Int)),(48,.i B4)],[some (.cells (AH c++AD q++[.ints pos,.msl 1 1 0 ln])),some (.ints o1)]⟩
theorem zDS (B:Nat) (N:Yd 2) (c:AC) (q:AA) (pos:List Int) (ln:Nat) (lost:List Int):Al (J1 c q pos ln lost) (zDR · B N c q pos ln lost):=ia (fun _=>rfl) fun n AF pt r h=>by
 cases pt
 case l1 x3 x4 BB=>
  intro m0 AB;refine rd AB fun m0 AB=>?_
  revert r;apply gO;exact bi 18 (gc (gi (gc (gi (gw 30 (bi 32 (gw 41 (lG AE [0,1] (AF _ _ · m0 AB))) (gw 41 (lG AE [0,1] (AF _ _ · m0 AB))))))))) (lN AE [0,1] (AF _ _ · n Nat.le.refl))
 case l2 x3 x4 B4 o1=>
  intro m0 AB;refine rd AB fun m0 AB=>?_
  revert r;apply gO;exact bi 49 (gc (gi (gc (gi (gw 61 (bi 63 (ce Fv [0,1] [some (.cells (AH c++AD q++[.ints pos,.msl 1 1 0 ln])),some (.ints o1)] fun _=>gw 76 (lG AE [0,1] (AF _ _ · m0 AB))) (ce Fv [0,1] [some (.cells (AH c++AD q++[.ints pos,.msl 1 1 0 ln])),some (.ints o1)] fun _=>gw 76 (lG AE [0,1] (AF _ _ · m0 AB))))))))) (lE AE [2] [0,1])
theorem zDQ {n:Nat} {c:AC} {q:AA} {pos:List Int} {ln:Nat} {lost:List Int} {r:Bool×(List Int)} (h:QT n c q pos ln lost=some r):EQ 57 [.ref 0 0] [some (.cells (AH c++AD q++[.ints pos,.msl 1 1 0 ln])),some (.ints lost)] (.bool r.1) [some (.cells (AH c++AD q++[.ints pos,.msl 1 1 0 ln])),some (.ints r.2)] false:=by
 refine ot Tryz.func57 fun B N=>?_
 revert r;apply gO;exact lN AE [0,1] ((zDS B N c q pos ln lost n) _ _ · n Nat.le.refl)
theorem tK:Af (Ax Tryz.f58 5) [] (List.range 15) []:=by unfold Af;kernel_rfl
theorem tJ:Af (Ax Tryz.f58 8) [] (List.range 15) []:=by unfold Af;kernel_rfl
theorem tL:Af (Ax Tryz.f58 16) [] (List.range 23) []:=by unfold Af;kernel_rfl
theorem ZO:Af (Ax Tryz.f58 18) [] (List.range 23) []:=by unfold Af;kernel_rfl
def FZ:BJ:=fun i=>match i with
 | 5=>.ord [] (List.range 15) []
 | 8=>.ord [] (List.range 15) []
 | 16=>.ord [] (List.range 23) []
 | 18=>.ord [] (List.range 23) []
 | _=>.no
inductive UB where
 | l1 (x3 x4 Aj:Int)
 | l2 (x3 x4 B9:Int) (o1:List Int)
def UA (n:Nat) (self:UB -> Option (Bool×(List Int))) (c:AC) (q:AA) (pos:List Int) (ln:Nat) (lost:List Int) (x3 x4 Aj:Int):Option (Bool×(List Int)):=
 bif (decide (Aj<(c.cells.length:Int))) then
  if (0<=Aj/\ Aj<(c.cells.length:Int))/\ (0<=(c.cells.getD ((Aj).toNat) 0)/\ (c.cells.getD ((Aj).toNat) 0)<(pos.length:Int)) then
   bif ((bits .andNot .i64 (pos.getD ((c.cells.getD ((Aj).toNat) 0).toNat) 0) c.set)==0) then
    if AG (x3+1)/\ AG (x4+1)/\ AG (Aj+1) then
     self (.l1 (x3+1) (x4+1) (Aj+1))
    else none
   else
    bif ((bits .and .i64 (pos.getD ((c.cells.getD ((Aj).toNat) 0).toNat) 0) c.set) != 0) then
     if AG (x4+1)/\ AG (Aj+1) then
      self (.l1 x3 (x4+1) (Aj+1))
     else none
    else
     if AG (Aj+1) then
      self (.l1 x3 x4 (Aj+1))
     else none
  else none
 else
  bif (decide (x3>c.hi)) then
   some (false,lost)
  else
   bif (decide (x4<c.lo)) then
    some (false,lost)
   else
    self (.l2 x3 x4 0 lost)
def T9 (n:Nat) (self:UB -> Option (Bool×(List Int))) (c:AC) (q:AA) (pos:List Int) (ln:Nat) (lost:List Int) (x3 x4 B9:Int) (o1:List Int):Option (Bool×(List Int)):=
 bif (decide (B9<(c.cells.length:Int))) then
  if 0<=B9/\ B9<(c.cells.length:Int) then
   bif (x3==c.hi) then
    if 0<=(c.cells.getD ((B9).toNat) 0)/\ (c.cells.getD ((B9).toNat) 0)<(pos.length:Int) then
     bif ((bits .andNot .i64 (pos.getD ((c.cells.getD ((B9).toNat) 0).toNat) 0) c.set) != 0) then
      (DJ n (c.cells.getD ((B9).toNat) 0) c.set c q pos ln o1).bind fun y1=>
       bif (x4==c.lo) then
        bif ((bits .and .i64 (pos.getD ((c.cells.getD ((B9).toNat) 0).toNat) 0) c.set) != 0) then
         (GJ n (c.cells.getD ((B9).toNat) 0) c q pos ln y1).bind fun y2=>
          if AG (B9+1) then
           self (.l2 x3 x4 (B9+1) y2)
          else none
        else
         if AG (B9+1) then
          self (.l2 x3 x4 (B9+1) y1)
         else none
       else
        if AG (B9+1) then
         self (.l2 x3 x4 (B9+1) y1)
        else none
     else
      bif (x4==c.lo) then
       bif ((bits .and .i64 (pos.getD ((c.cells.getD ((B9).toNat) 0).toNat) 0) c.set) != 0) then
        (GJ n (c.cells.getD ((B9).toNat) 0) c q pos ln o1).bind fun y1=>
         if AG (B9+1) then
          self (.l2 x3 x4 (B9+1) y1)
         else none
       else
        if AG (B9+1) then
         self (.l2 x3 x4 (B9+1) o1)
        else none
      else
       if AG (B9+1) then
        self (.l2 x3 x4 (B9+1) o1)
       else none
    else none
   else
    bif (x4==c.lo) then
     if 0<=(c.cells.getD ((B9).toNat) 0)/\ (c.cells.getD ((B9).toNat) 0)<(pos.length:Int) then
      bif ((bits .and .i64 (pos.getD ((c.cells.getD ((B9).toNat) 0).toNat) 0) c.set) != 0) then
       (GJ n (c.cells.getD ((B9).toNat) 0) c q pos ln o1).bind fun y1=>
        if AG (B9+1) then
         self (.l2 x3 x4 (B9+1) y1)
        else none
      else
       if AG (B9+1) then
        self (.l2 x3 x4 (B9+1) o1)
       else none
     else none
    else
     if AG (B9+1) then
      self (.l2 x3 x4 (B9+1) o1)
     else none
  else none
 else
  some (true,o1)
def zDd (n:Nat) (self:UB -> Option (Bool×(List Int))) (c:AC) (q:AA) (pos:List Int) (ln:Nat) (lost:List Int):Option (Bool×(List Int)):=
 self (.l1 0 0 0)
def I9 (c:AC) (q:AA) (pos:List Int) (ln:Nat) (lost:List Int):Nat -> UB -> Option (Bool×(List Int))
 | 0,_=>none
 | n+1,.l1 x3 x4 Aj=>UA n (I9 c q pos ln lost n) c q pos ln lost x3 x4 Aj
 | n+1,.l2 x3 x4 B9 o1=>T9 n (I9 c q pos ln lost n) c q pos ln lost x3 x4 B9 o1
def QV (n:Nat) (c:AC) (q:AA) (pos:List Int) (ln:Nat) (lost:List Int):Option (Bool×(List Int)):=zDd n (I9 c q pos ln lost n) c q pos ln lost
def zDe (n B:Nat) (N:Yd 2) (c:AC) (q:AA) (pos:List Int) (ln:Nat) (lost:List Int) (r:Bool×(List Int)):UB -> Prop
 | .l1 x3 x4 Aj=>∀ m0:Nat,n<=m0 -> TW B N (FQ Tryz.f58 2 (.bool r.1) [some (.cells (AH c++AD q++[.ints pos,.msl 1 1 0 ln])),some (.ints r.2)]) (Ah m0 (Ap (AW Tryz.f58) 0 [])) ⟨AM 140 [(0,.ref 0 0),(3,.i x3),(4,.i x4),(13,.ints c.cells),(14,.i (c.cells.length:Int)),(15,.i Aj)],[some (.cells (AH c++AD q++[.ints pos,.msl 1 1 0 ln])),some (.ints lost)]⟩
 | .l2 x3 x4 B9 o1=>∀ m0:Nat,n<=m0 -> TW B N (FQ Tryz.f58 2 (.bool r.1) [some (.cells (AH c++AD q++[.ints pos,.msl 1 1 0 ln])),some (.ints r.2)]) (Ah m0 (Ap (AW Tryz.f58) 3 [])) ⟨AM 140 [(0,.ref 0 0),(3,.i x3),(4,.i x4),(76,.ints c.cells),(77,.i (c.cells.length:Int)),(78,.i B9)],[some (.cells (AH c++AD q++[.ints pos,.msl 1 1 0 ln])),some (.ints o1)]⟩
theorem zDf (B:Nat) (N:Yd 2) (c:AC) (q:AA) (pos:List Int) (ln:Nat) (lost:List Int):Al (I9 c q pos ln lost) (zDe · B N c q pos ln lost):=ia (fun _=>rfl) fun n AF pt r h=>by
 cases pt
 case l1 x3 x4 Aj=>
  intro m0 AB;refine rd AB fun m0 AB=>?_
  revert r;apply gO;exact bi 16 (gc (gi (jg tK (gn fun g1=>jg g1 (bi 33 (gc (gw 35 (gc (gw 37 (gw 55 (lG FZ [0,1] (AF _ _ · m0 AB))))))) (jg tJ (jg g1 (bi 52 (gc (gw 54 (gw 55 (lG FZ [0,1] (AF _ _ · m0 AB))))) (gw 55 (lG FZ [0,1] (AF _ _ · m0 AB))))))))))) (bi 62 (lE FZ [2] [0,1]) (bi 70 (lE FZ [2] [0,1]) (lN FZ [0,1] (AF _ _ · n Nat.le.refl))))
 case l2 x3 x4 B9 o1=>
  intro m0 AB;refine rd AB fun m0 AB=>?_
  revert r;apply gO;exact bi 79 (gi (jg tL (bi 88 (gn fun g1=>jg g1 (bi 103 (ce Fv [0,1] [some (.cells (AH c++AD q++[.ints pos,.msl 1 1 0 ln])),some (.ints o1)] fun y1=>jg ZO (bi 119 (jg g1 (bi 134 (ce Lm [0,1] [some (.cells (AH c++AD q++[.ints pos,.msl 1 1 0 ln])),some (.ints y1)] fun _=>gw 139 (lG FZ [0,1] (AF _ _ · m0 AB))) (gw 139 (lG FZ [0,1] (AF _ _ · m0 AB))))) (gw 139 (lG FZ [0,1] (AF _ _ · m0 AB))))) (jg ZO (bi 119 (jg g1 (bi 134 (ce Lm [0,1] [some (.cells (AH c++AD q++[.ints pos,.msl 1 1 0 ln])),some (.ints o1)] fun _=>gw 139 (lG FZ [0,1] (AF _ _ · m0 AB))) (gw 139 (lG FZ [0,1] (AF _ _ · m0 AB))))) (gw 139 (lG FZ [0,1] (AF _ _ · m0 AB))))))) (jg ZO (bi 119 (gi (bi 134 (ce Lm [0,1] [some (.cells (AH c++AD q++[.ints pos,.msl 1 1 0 ln])),some (.ints o1)] fun _=>gw 139 (lG FZ [0,1] (AF _ _ · m0 AB))) (gw 139 (lG FZ [0,1] (AF _ _ · m0 AB))))) (gw 139 (lG FZ [0,1] (AF _ _ · m0 AB)))))))) (lE FZ [2] [0,1])
theorem zDc {n:Nat} {c:AC} {q:AA} {pos:List Int} {ln:Nat} {lost:List Int} {r:Bool×(List Int)} (h:QV n c q pos ln lost=some r):EQ 58 [.ref 0 0] [some (.cells (AH c++AD q++[.ints pos,.msl 1 1 0 ln])),some (.ints lost)] (.bool r.1) [some (.cells (AH c++AD q++[.ints pos,.msl 1 1 0 ln])),some (.ints r.2)] false:=by
 refine ot Tryz.func58 fun B N=>?_
 revert r;apply gO;exact lN FZ [0,1] ((zDf B N c q pos ln lost n) _ _ · n Nat.le.refl)
end Go.Proofs.YtekkngkphejfcaaGreatDoor
namespace Go.Proofs.YtekkngkphejfcaaGreatDoor
open Go.RowKit
set_option maxRecDepth 100000
set_option maxHeartbeats 40000000
def q9 (n:Nat) (BF:Int):Option Unit:=
 some ()
def rA (n:Nat) (BF:Int):Option Unit:=q9 n BF
theorem q8 {n:Nat} (BF:Int) {r:Unit} (h:rA n BF=some r):EQ 39 [.i BF] [] (.fn 69 1 (L1 [.ref 0 0])) [some (.cells [.i BF])] true:=by
 refine ot Tryz.func39 fun B N=>?_
 revert r;apply gO;exact lE AE [2] [0]
theorem KB {x:Int} (hx:0<=x/\ x<9223372036854775808) (h:DH):EQ 39 [.i x] h (.it h.length) (h++[some (.iter ((BK x).map B7))]) true:=by
 refine ES.iterOf (q8 (n:=0) x (r:=()) rfl) rfl (by kernel_rfl) (fun args W=>?_) (fun w b o u hg Gk hb hc hr=>qz hx w b o u hg Gk hb hc hr) rfl (fun b hb=>?_) h
 ·exact oX Tryz.func69 (by kernel_rfl) (by kernel_rfl) args W
 ·rw [hb];decide
def gP:ST:=.rd 0 (.rd 1 (.rd 2 (.rd 3 (.rd 4 (.rd 5 (.rd 6 (.rd 7 (.rd 8 (.rd 9 (.rd 10 (.rd 11 (.rd 12 (.rd 13 (.rd 14 (.rd 15 (.rd 16 (.rd 17 (.rd 18 (.rd 19 (.ef 20 (.ef 21 (.fin [] [4,5]) (.no)) (.no)))))))))))))))))))))
theorem tH:CN (Ax Tryz.f84 4) [20] gP:=by unfold CN;kernel_rfl
def gN:ST:=.rd 0 (.rd 1 (.ef 2 (.ef 3 (.fin [] [4,5]) (.no)) (.no)))
theorem tG:CN (Ax Tryz.f84 5) [2] gN:=by unfold CN;kernel_rfl
def VC:BJ:=fun i=>match i with
 | 4=>.tre [20] gP
 | 5=>.tre [2] gN
 | _=>.no
def zA8 (c:AC) (q:AA) (pos:List Int) (ln:Nat) (lost:List Int):DH:=[some (.cells (AH c++AD q++[.ints pos,.msl 1 1 0 ln])),some (.ints lost),some (.cells [.ref 0 0]),some (.cells [.i 100]),some (.cells [.i (-1)])]
def zA7 (c:AC) (q:AA) (pos:List Int) (ln:Nat) (lost:List Int) (ss:Int):DH:=[some (.cells (AH c++AD q++[.ints pos,.msl 1 1 0 ln])),some (.ints lost),some (.cells [.ref 0 0]),some (.cells [.i 100]),some (.cells [.i (-1)]),some (.iter ((BK ss).map B7))]
def fw (c:AC) (q:AA) (pos:List Int) (ln:Nat) (lost:List Int) (Db Da:Int):St:=⟨(AM 32 [(4,.ref 3 0),(5,.ref 4 0)]),([some (.cells (AH c++AD q++[.ints pos,.msl 1 1 0 ln])),some (.ints lost),some (.cells [.ref 0 0]),some (.cells [.i Db]),some (.cells [.i Da]),none]:DH)⟩
def zA6 (c:AC) (q:AA) (pos:List Int) (ln:Nat) (lost:List Int) (Fu Ft:Int):DH:=[some (.cells (AH c++AD q++[.ints pos,.msl 1 1 0 ln])),some (.ints lost),some (.cells [.ref 0 0]),some (.cells [.i Fu]),some (.cells [.i Ft]),none]
def fv (c:AC) (q:AA) (pos:List Int) (ln:Nat) (lost:List Int) (e8 Fu Ft:Int):St:=⟨(AM 32 [(4,.ref 3 0),(5,.ref 4 0)]),([some (.cells (AH c++AD q++[.ints pos,.msl 1 1 0 ln])),some (.ints lost),some (.cells [.ref 0 0]),some (.cells [.i (if (q.values.getD ((e8).toNat) 0)<Fu then (q.values.getD ((e8).toNat) 0) else Fu)]),some (.cells [.i (if (q.values.getD ((e8).toNat) 0)>Ft then (q.values.getD ((e8).toNat) 0) else Ft)]),none]:DH)⟩
inductive MF where
 | s0 (Fu Ft:Int)
def oe (c:AC) (q:AA) (pos:List Int) (ln:Nat) (lost:List Int):MF -> DH
 | .s0 Fu Ft=>[some (.cells (AH c++AD q++[.ints pos,.msl 1 1 0 ln])),some (.ints lost),some (.cells [.ref 0 0]),some (.cells [.i Fu]),some (.cells [.i Ft]),none]
def od (n:Nat) (c:AC) (q:AA) (pos:List Int) (ln:Nat) (lost:List Int) (e8:Int) (Fu Ft:Int):Option MF:=
 if 0<=e8/\ e8<(q.values.length:Int) then
  some (.s0 (if (q.values.getD ((e8).toNat) 0)<Fu then (q.values.getD ((e8).toNat) 0) else Fu) (if (q.values.getD ((e8).toNat) 0)>Ft then (q.values.getD ((e8).toNat) 0) else Ft))
 else none
def oc (n:Nat) (c:AC) (q:AA) (pos:List Int) (ln:Nat) (lost:List Int) (e8:Int):MF -> Option MF
 | .s0 Fu Ft=>od n c q pos ln lost e8 Fu Ft
def Ty (n:Nat) (c:AC) (q:AA) (pos:List Int) (ln:Nat) (lost:List Int) (e8:Int) (s:MF):Option MF:=oc n c q pos ln lost e8 s
theorem zDC (n:Nat) (c:AC) (q:AA) (pos:List Int) (ln:Nat) (lost:List Int) (l B:Nat) (N:Yd 6) (e8:Int) (s:MF) (r:MF) (h:Ty n c q pos ln lost e8 s=some r):TA l B N (DX 6 [] 0 (oe c q pos ln lost r)) Tryz.f84 8 ⟨AM 32 [(2,.ref 2 0),(4,.ref 3 0),(5,.ref 4 0),(8,.it 5),(9,.i e8)],oe c q pos ln lost s⟩:=by
 cases s with
 | s0 Fu Ft=>
  refine ag VC [0,1,2,3,4,5] H0 (AM 32 [(2,.ref 2 0),(4,.ref 3 0),(5,.ref 4 0),(6,.i e8)]) (zA6 c q pos ln lost Fu Ft) fun N=>?_
  revert r;apply gO;exact jg tH (gn fun pc=>jg pc (jg pc (jt (jt (jg (Eq.refl (fv c q pos ln lost e8 Fu Ft)) (lF fun p=>rr (tg:=[([(20,3)],(fv c q pos ln lost e8 Fu Ft))]) VC [0,1,2,3,4,5] rfl p))))))
def oa (n:Nat) (ss:Int) (c:AC) (q:AA) (pos:List Int) (ln:Nat) (lost:List Int):Option (Int×Int×(List Int)):=
 if 0<=ss/\ ss<9223372036854775808 then
  (CC (Ty n c q pos ln lost) (BK ss) (.s0 100 (-1))).bind fun y1=>
   match y1 with
   | .s0 Db Da=>
    some (Db,Da,lost)
 else none
def Tz (n:Nat) (ss:Int) (c:AC) (q:AA) (pos:List Int) (ln:Nat) (lost:List Int):Option (Int×Int×(List Int)):=oa n ss c q pos ln lost
theorem QP {n:Nat} {ss:Int} {c:AC} {q:AA} {pos:List Int} {ln:Nat} {lost:List Int} {r:Int×Int×(List Int)} (h:Tz n ss c q pos ln lost=some r):EQ 84 [.ref 0 0,.i ss] [some (.cells (AH c++AD q++[.ints pos,.msl 1 1 0 ln])),some (.ints lost)] (.tup 2 (L1 [.i r.1,.i r.2.1])) [some (.cells (AH c++AD q++[.ints pos,.msl 1 1 0 ln])),some (.ints r.2.2)] false:=by
 refine ot Tryz.func84 fun B N=>?_
 revert r;apply gO
 exact jt (jt (gn fun g0=>jc (KB g0 (zA8 c q pos ln lost)) (cn fun y1 A1=>fun p r h=>by
  refine gs VC [0,1,2,3,4,5] p (HU (AW Tryz.f84) 8 []) (AM 32 [(2,.ref 2 0),(4,.ref 3 0),(5,.ref 4 0),(8,.it 5)]) (zA7 c q pos ln lost ss) ?_;refine r0 5 8 #[9] B7 6 A1 (zDC n c q pos ln lost) ?_;cases y1 with
  | s0 Db Da=>
   dsimp only at h
   revert r;apply gO;exact jg tG (jt (jt (jg (Eq.refl (fw c q pos ln lost Db Da)) (lE (tg:=[([(2,3)],(fw c q pos ln lost Db Da))]) VC [4,5] [0,1,3,4])))))))
def gA:ST:=.rd 0 (.rd 1 (.rd 2 (.rd 3 (.rd 4 (.rd 5 (.rd 6 (.rd 7 (.ef 8 (.rd 9 (.rd 10 (.rd 11 (.rd 12 (.rd 13 (.fin [] [1,3,4,7,8,19,20,21,90])))))) (.no)))))))))
theorem rt:CN (Ax Tryz.f59 5) [] gA:=by unfold CN;kernel_rfl
def f9:ST:=.rd 0 (.rd 1 (.rd 2 (.rd 3 (.rd 4 (.rd 5 (.ef 6 (.ef 7 (.fin [] [1,3,4,19,20,21,90]) (.no)) (.no)))))))
theorem rq:CN (Ax Tryz.f59 6) [6] f9:=by unfold CN;kernel_rfl
theorem rp:Af (Ax Tryz.f59 8) [] (List.range 16) []:=by unfold Af;kernel_rfl
def gC:ST:=.rd 0 (.rd 1 (.rd 2 (.rd 3 (.rd 4 (.rd 5 (.rd 6 (.rd 7 (.ef 8 (.rd 9 (.rd 10 (.rd 11 (.ef 12 (.ef 13 (.ef 14 (.ef 15 (.fin [0,1] [1,3,4,10,11,12,64,65,66,90]) (.no)) (.no)) (.no)) (.ef 13 (.ef 12 (.ef 14 (.ef 15 (.fin [1,0] [1,3,4,10,11,12,64,65,66,90]) (.no)) (.no)) (.no)) (.no)))))) (.ef 12 (.ef 8 (.rd 9 (.rd 10 (.rd 11 (.ef 13 (.ef 14 (.ef 15 (.fin [0,1] [1,3,4,10,11,12,64,65,66,90]) (.no)) (.no)) (.no))))) (.ef 13 (.ef 8 (.rd 9 (.rd 10 (.rd 11 (.ef 14 (.ef 15 (.fin [0,1] [1,3,4,10,11,12,64,65,66,90]) (.no)) (.no))))) (.no)) (.no))) (.ef 13 (.ef 8 (.rd 9 (.rd 10 (.rd 11 (.ef 12 (.ef 14 (.ef 15 (.fin [1,0] [1,3,4,10,11,12,64,65,66,90]) (.no)) (.no)) (.no))))) (.ef 12 (.ef 8 (.rd 9 (.rd 10 (.rd 11 (.ef 14 (.ef 15 (.fin [1,0] [1,3,4,10,11,12,64,65,66,90]) (.no)) (.no))))) (.no)) (.no))) (.no)))))))))))
theorem r7:CN (Ax Tryz.f59 13) [12,13,14] gC:=by unfold CN;kernel_rfl
theorem rz:Af (Ax Tryz.f59 14) [([0,1,2,3,4,5,6],7)] [] []:=by unfold Af;kernel_rfl
theorem ru:Af (Ax Tryz.f59 17) [] (List.range 24) []:=by unfold Af;kernel_rfl
def gB:ST:=.rd 0 (.rd 1 (.rd 2 (.rd 3 (.ef 4 (.fin [] [2]) (.no)))))
theorem iE:CN (Ax Tryz.f59 18) [] gB:=by unfold CN;kernel_rfl
def Hm:BJ:=fun i=>match i with
 | 5=>.tre [] gA
 | 6=>.tre [6] f9
 | 8=>.ord [] (List.range 16) []
 | 13=>.tre [12,13,14] gC
 | 14=>.ord [([0,1,2,3,4,5,6],7)] [] []
 | 17=>.ord [] (List.range 24) []
 | 18=>.tre [] gB
 | _=>.no
def zAI (c:AC) (q:AA) (pos:List Int) (ln:Nat) (o1:List Int) (Aa Aq:Int):DH:=[some (.cells (AH c++AD q++[.ints pos,.msl 1 1 0 ln])),some (.ints o1),some (.cells [.ref 0 0]),some (.cells [.i Aa]),some (.cells [.i Aq])]
def ff (y1:Int×Int×(List Int)) (c:AC) (x21:Int) (q:AA) (pos:List Int) (ln:Nat) (Aa Aq:Int):St:=⟨(AM 129 [(1,.ref 2 0),(3,.ref 3 0),(4,.ref 4 0),(7,.i y1.1),(8,.i y1.2.1),(19,.ints c.cells),(20,.i (c.cells.length:Int)),(21,.i x21)]),([some (.cells (AH c++AD q++[.ints pos,.msl 1 1 0 ln])),some (.ints y1.2.2),some (.cells [.ref 0 0]),some (.cells [.i Aa]),some (.cells [.i Aq])]:DH)⟩
def fe (c:AC) (x21:Int) (q:AA) (pos:List Int) (ln:Nat) (y1:Int×Int×(List Int)) (Aa Aq:Int):St:=⟨(AM 129 [(1,.ref 2 0),(3,.ref 3 0),(4,.ref 4 0),(19,.ints c.cells),(20,.i (c.cells.length:Int)),(21,.i x21)]),([some (.cells (AH c++AD q++[.ints pos,.msl 1 1 0 ln])),some (.ints y1.2.2),some (.cells [.ref 0 0]),some (.cells [.i (Aa+y1.1)]),some (.cells [.i (Aq+y1.2.1)])]:DH)⟩
def zAH (c:AC) (q:AA) (pos:List Int) (ln:Nat) (o1:List Int) (Aa Aq Am:Int):DH:=[some (.cells (AH c++AD q++[.ints pos,.msl 1 1 0 ln])),some (.ints o1),some (.cells [.ref 0 0]),some (.cells [.i Aa]),some (.cells [.i Aq]),some (.cells [.i (c.cells.getD ((Am).toNat) 0)])]
def Mf (c:AC) (Am:Int) (q:AA) (pos:List Int) (ln:Nat) (y1:Int×Int×(List Int)) (Aa Aq:Int):St:=⟨(AM 129 [(1,.ref 2 0),(3,.ref 3 0),(4,.ref 4 0),(10,.ref 5 0),(11,.ref 6 0),(12,.ref 7 0),(64,.ints c.cells),(65,.i (c.cells.length:Int)),(66,.i Am)]),([some (.cells (AH c++AD q++[.ints pos,.msl 1 1 0 ln])),some (.ints y1.2.2),some (.cells [.ref 0 0]),some (.cells [.i Aa]),some (.cells [.i Aq]),some (.cells [.i (c.cells.getD ((Am).toNat) 0)]),some (.cells [.i y1.1]),some (.cells [.i y1.2.1])]:DH)⟩
def ml (c:AC) (q:AA) (pos:List Int) (ln:Nat) (o1:List Int) (Aa Aq Am:Int):DH:=[some (.cells (AH c++AD q++[.ints pos,.msl 1 1 0 ln])),some (.ints o1),some (.cells [.ref 0 0]),some (.cells [.i Aa]),some (.cells [.i Aq]),some (.cells [.i (c.cells.getD ((Am).toNat) 0)]),some (.cells [.i 0])]
def mj (c:AC) (q:AA) (pos:List Int) (ln:Nat) (o1:List Int) (Aa Aq Am:Int):DH:=[some (.cells (AH c++AD q++[.ints pos,.msl 1 1 0 ln])),some (.ints o1),some (.cells [.ref 0 0]),some (.cells [.i Aa]),some (.cells [.i Aq]),some (.cells [.i (c.cells.getD ((Am).toNat) 0)]),some (.cells [.i 0]),some (.cells [.i 0])]
def zAG (c:AC) (q:AA) (pos:List Int) (ln:Nat) (y1:Int×Int×(List Int)) (Aa Aq Am:Int):DH:=[some (.cells (AH c++AD q++[.ints pos,.msl 1 1 0 ln])),some (.ints y1.2.2),some (.cells [.ref 0 0]),some (.cells [.i Aa]),some (.cells [.i Aq]),some (.cells [.i (c.cells.getD ((Am).toNat) 0)]),some (.cells [.i y1.1]),some (.cells [.i y1.2.1])]
def zAF (c:AC) (q:AA) (pos:List Int) (ln:Nat) (y1:Int×Int×(List Int)) (Aa Aq Am:Int):DH:=[some (.cells (AH c++AD q++[.ints pos,.msl 1 1 0 ln])),some (.ints y1.2.2),some (.cells [.ref 0 0]),some (.cells [.i Aa]),some (.cells [.i Aq]),some (.cells [.i (c.cells.getD ((Am).toNat) 0)]),some (.cells [.i y1.1]),some (.cells [.i y1.2.1]),some (.iter ((BK (pos.getD ((c.cells.getD ((Am).toNat) 0).toNat) 0)).map B7))]
def cC (c:AC) (q:AA) (pos:List Int) (ln:Nat) (GF:List Int) (Aa Aq Am:Int) (y1:Int×Int×(List Int)):DH:=[some (.cells (AH c++AD q++[.ints pos,.msl 1 1 0 ln])),some (.ints GF),some (.cells [.ref 0 0]),some (.cells [.i Aa]),some (.cells [.i Aq]),some (.cells [.i (c.cells.getD ((Am).toNat) 0)]),some (.cells [.i y1.1]),some (.cells [.i y1.2.1]),none]
def Ux (c:AC) (q:AA) (pos:List Int) (ln:Nat) (JD:(List Int)) (Aa Aq Am:Int) (y1:Int×Int×(List Int)):St:=⟨(AM 129 []),([some (.cells (AH c++AD q++[.ints pos,.msl 1 1 0 ln])),some (.ints JD),some (.cells [.ref 0 0]),some (.cells [.i Aa]),some (.cells [.i Aq]),some (.cells [.i (c.cells.getD ((Am).toNat) 0)]),some (.cells [.i y1.1]),some (.cells [.i y1.2.1]),none]:DH)⟩
inductive KC where
 | s0 (GF:List Int)
def gV (c:AC) (Am:Int) (q:AA) (pos:List Int) (ln:Nat) (Aa Aq:Int) (y1:Int×Int×(List Int)):KC -> DH
 | .s0 GF=>[some (.cells (AH c++AD q++[.ints pos,.msl 1 1 0 ln])),some (.ints GF),some (.cells [.ref 0 0]),some (.cells [.i Aa]),some (.cells [.i Aq]),some (.cells [.i (c.cells.getD ((Am).toNat) 0)]),some (.cells [.i y1.1]),some (.cells [.i y1.2.1]),none]
def U4 (n:Nat) (c:AC) (Am:Int) (q:AA) (pos:List Int) (ln:Nat) (Aa Aq:Int) (y1:Int×Int×(List Int)) (Ec:Int) (GF:List Int):Option KC:=
 if (0<=Ec/\ Ec<(q.values.length:Int))/\ AG (Aa-y1.1)/\ AG ((Aa-y1.1)+(q.values.getD ((Ec).toNat) 0)) then
  bif (decide (((Aa-y1.1)+(q.values.getD ((Ec).toNat) 0))>c.hi)) then
   if 0<=Ec/\ Ec<=(IntKind.i64.bits:Int) then
    (DJ n (c.cells.getD ((Am).toNat) 0) (IntKind.i64.wrap (1*2 ^ (Ec).toNat)) c q pos ln GF).bind fun JD=>
     some (.s0 JD)
   else none
  else
   if AG (Aq-y1.2.1)/\ AG ((Aq-y1.2.1)+(q.values.getD ((Ec).toNat) 0)) then
    bif (decide (((Aq-y1.2.1)+(q.values.getD ((Ec).toNat) 0))<c.lo)) then
     if 0<=Ec/\ Ec<=(IntKind.i64.bits:Int) then
      (DJ n (c.cells.getD ((Am).toNat) 0) (IntKind.i64.wrap (1*2 ^ (Ec).toNat)) c q pos ln GF).bind fun JD=>
       some (.s0 JD)
     else none
    else
     some (.s0 GF)
   else none
 else none
def gU (n:Nat) (c:AC) (Am:Int) (q:AA) (pos:List Int) (ln:Nat) (Aa Aq:Int) (y1:Int×Int×(List Int)) (Ec:Int):KC -> Option KC
 | .s0 GF=>U4 n c Am q pos ln Aa Aq y1 Ec GF
def U5 (n:Nat) (c:AC) (Am:Int) (q:AA) (pos:List Int) (ln:Nat) (Aa Aq:Int) (y1:Int×Int×(List Int)) (Ec:Int) (s:KC):Option KC:=gU n c Am q pos ln Aa Aq y1 Ec s
theorem rI (n:Nat) (c:AC) (Am:Int) (q:AA) (pos:List Int) (ln:Nat) (Aa Aq:Int) (y1:Int×Int×(List Int)) (l B:Nat) (N:Yd 9) (Ec:Int) (s:KC) (r:KC) (h:U5 n c Am q pos ln Aa Aq y1 Ec s=some r):TA l B N (DX 9 [] 0 (gV c Am q pos ln Aa Aq y1 r)) Tryz.f59 89 ⟨AM 129 [(1,.ref 2 0),(3,.ref 3 0),(4,.ref 4 0),(10,.ref 5 0),(11,.ref 6 0),(12,.ref 7 0),(64,.ints c.cells),(65,.i (c.cells.length:Int)),(66,.i Am),(89,.it 8),(90,.i Ec)],gV c Am q pos ln Aa Aq y1 s⟩:=by
 cases s with
 | s0 GF=>
  replace h:U4 n c Am q pos ln Aa Aq y1 Ec GF=some r:=h;unfold U4 at h;refine ag Hm [0,1,2,3,4,5,6,7,8] H0 (AM 129 [(1,.ref 2 0),(3,.ref 3 0),(4,.ref 4 0),(10,.ref 5 0),(11,.ref 6 0),(12,.ref 7 0),(13,.i Ec)]) (cC c q pos ln GF Aa Aq Am y1) fun N=>?_
  revert r;apply gO;exact gc (gi (jg ru (gc (gw 101 (gw 103 (bi 109 (jg iE (gi (ce Fv [0,1] (cC c q pos ln GF Aa Aq Am y1) fun JD=>jg (Eq.refl (Ux c q pos ln JD Aa Aq Am y1)) (lF fun p=>rr (tg:=[([],(Ux c q pos ln JD Aa Aq Am y1))]) Hm [0,1,2,3,4,5,6,7,8] rfl p)))) (gc (gw 113 (gw 115 (bi 121 (jg iE (gi (ce Fv [0,1] (cC c q pos ln GF Aa Aq Am y1) fun JD=>jg (Eq.refl (Ux c q pos ln JD Aa Aq Am y1)) (lF fun p=>rr (tg:=[([],(Ux c q pos ln JD Aa Aq Am y1))]) Hm [0,1,2,3,4,5,6,7,8] rfl p)))) (lF fun p=>rr Hm [0,1,2,3,4,5,6,7,8] rfl p)))))))))))
inductive Q6 where
 | l1 (x21:Int) (o1:List Int) (Aa Aq:Int)
 | l2 (Am:Int) (o1:List Int) (Aa Aq:Int)
def Q5 (n:Nat) (self:Q6 -> Option (Bool×(List Int))) (c:AC) (q:AA) (pos:List Int) (ln:Nat) (lost:List Int) (x21:Int) (o1:List Int) (Aa Aq:Int):Option (Bool×(List Int)):=
 bif (decide (x21<(c.cells.length:Int))) then
  if (0<=x21/\ x21<(c.cells.length:Int))/\ (0<=(c.cells.getD ((x21).toNat) 0)/\ (c.cells.getD ((x21).toNat) 0)<(pos.length:Int)) then
   (Tz n (pos.getD ((c.cells.getD ((x21).toNat) 0).toNat) 0) c q pos ln o1).bind fun y1=>
    if AG (Aa+y1.1)/\ AG (Aq+y1.2.1)/\ AG (x21+1) then
     self (.l1 (x21+1) y1.2.2 (Aa+y1.1) (Aq+y1.2.1))
    else none
  else none
 else
  bif (decide (Aa>c.hi)) then
   some (false,o1)
  else
   bif (decide (Aq<c.lo)) then
    some (false,o1)
   else
    self (.l2 0 o1 Aa Aq)
def Q4 (n:Nat) (self:Q6 -> Option (Bool×(List Int))) (c:AC) (q:AA) (pos:List Int) (ln:Nat) (lost:List Int) (Am:Int) (o1:List Int) (Aa Aq:Int):Option (Bool×(List Int)):=
 bif (decide (Am<(c.cells.length:Int))) then
  if (0<=Am/\ Am<(c.cells.length:Int))/\ (0<=(c.cells.getD ((Am).toNat) 0)/\ (c.cells.getD ((Am).toNat) 0)<(pos.length:Int)) then
   (Tz n (pos.getD ((c.cells.getD ((Am).toNat) 0).toNat) 0) c q pos ln o1).bind fun y1=>
    if 0<=(pos.getD ((c.cells.getD ((Am).toNat) 0).toNat) 0)/\ (pos.getD ((c.cells.getD ((Am).toNat) 0).toNat) 0)<9223372036854775808 then
     (CC (U5 n c Am q pos ln Aa Aq y1) (BK (pos.getD ((c.cells.getD ((Am).toNat) 0).toNat) 0)) (.s0 y1.2.2)).bind fun y2=>
      match y2 with
      | .s0 LA=>
       if AG (Am+1) then
        self (.l2 (Am+1) LA Aa Aq)
       else none
    else none
  else none
 else
  some (true,o1)
def rH (n:Nat) (self:Q6 -> Option (Bool×(List Int))) (c:AC) (q:AA) (pos:List Int) (ln:Nat) (lost:List Int):Option (Bool×(List Int)):=
 self (.l1 0 lost 0 0)
def IP (c:AC) (q:AA) (pos:List Int) (ln:Nat) (lost:List Int):Nat -> Q6 -> Option (Bool×(List Int))
 | 0,_=>none
 | n+1,.l1 x21 o1 Aa Aq=>Q5 n (IP c q pos ln lost n) c q pos ln lost x21 o1 Aa Aq
 | n+1,.l2 Am o1 Aa Aq=>Q4 n (IP c q pos ln lost n) c q pos ln lost Am o1 Aa Aq
def Oi (n:Nat) (c:AC) (q:AA) (pos:List Int) (ln:Nat) (lost:List Int):Option (Bool×(List Int)):=rH n (IP c q pos ln lost n) c q pos ln lost
def rJ (n B:Nat) (N:Yd 2) (c:AC) (q:AA) (pos:List Int) (ln:Nat) (lost:List Int) (r:Bool×(List Int)):Q6 -> Prop
 | .l1 x21 o1 Aa Aq=>∀ m0:Nat,n<=m0 -> TW B N (FQ Tryz.f59 2 (.bool r.1) [some (.cells (AH c++AD q++[.ints pos,.msl 1 1 0 ln])),some (.ints r.2)]) (Ah m0 (Ap (AW Tryz.f59) 0 [])) ⟨AM 129 [(1,.ref 2 0),(3,.ref 3 0),(4,.ref 4 0),(19,.ints c.cells),(20,.i (c.cells.length:Int)),(21,.i x21)],[some (.cells (AH c++AD q++[.ints pos,.msl 1 1 0 ln])),some (.ints o1),some (.cells [.ref 0 0]),some (.cells [.i Aa]),some (.cells [.i Aq])]⟩
 | .l2 Am o1 Aa Aq=>∀ m0:Nat,n<=m0 -> TW B N (FQ Tryz.f59 2 (.bool r.1) [some (.cells (AH c++AD q++[.ints pos,.msl 1 1 0 ln])),some (.ints r.2)]) (Ah m0 (Ap (AW Tryz.f59) 2 [])) ⟨AM 129 [(1,.ref 2 0),(3,.ref 3 0),(4,.ref 4 0),(64,.ints c.cells),(65,.i (c.cells.length:Int)),(66,.i Am)],[some (.cells (AH c++AD q++[.ints pos,.msl 1 1 0 ln])),some (.ints o1),some (.cells [.ref 0 0]),some (.cells [.i Aa]),some (.cells [.i Aq])]⟩
theorem rK (B:Nat) (N:Yd 2) (c:AC) (q:AA) (pos:List Int) (ln:Nat) (lost:List Int):Al (IP c q pos ln lost) (rJ · B N c q pos ln lost):=ia (fun _=>rfl) fun n AF pt r h=>by
 cases pt
 case l1 x21 o1 Aa Aq=>
  intro m0 AB;refine rd AB fun m0 AB=>?_
  revert r;apply gO;exact bi 22 (gc (gi (jg rt (gi (ce QP [0,1] (zAI c q pos ln o1 Aa Aq) fun y1=>jg (Eq.refl (ff y1 c x21 q pos ln Aa Aq)) (jg rq (gc (gw 39 (gc (gw 42 (jt (jt (jg (Eq.refl (fe c x21 q pos ln y1 Aa Aq)) (gw 43 (lG (tg:=[([],(ff y1 c x21 q pos ln Aa Aq)),([(6,3)],(fe c x21 q pos ln y1 Aa Aq))]) Hm [0,1,2,3,4] (AF _ _ · m0 AB)))))))))))))))) (jg rp (bi 50 (lE Hm [2] [0,1]) (bi 58 (lE Hm [2] [0,1]) (lN Hm [0,1,2,3,4] (AF _ _ · n Nat.le.refl)))))
 case l2 Am o1 Aa Aq=>
  intro m0 AB;refine rd AB fun m0 AB=>?_
  revert r;apply gO
  exact bi 67 (gc (gi (jt (jg r7 (gn fun g1=>jg g1 (cn fun y1 A1=>jc (em (QP A1) [0,1] (zAH c q pos ln o1 Aa Aq Am)) (jt (jt (jg (Eq.refl (Mf c Am q pos ln y1 Aa Aq)) (jt (jt (jg (Eq.refl (Mf c Am q pos ln y1 Aa Aq)) (jc (em (QP A1) [0,1] (ml c q pos ln o1 Aa Aq Am)) (jt (jt (jg (Eq.refl (Mf c Am q pos ln y1 Aa Aq)) (jc (em (QP A1) [0,1] (mj c q pos ln o1 Aa Aq Am)) (jt (jt (jg (Eq.refl (Mf c Am q pos ln y1 Aa Aq)) (jc (em (QP A1) [0,1] (ml c q pos ln o1 Aa Aq Am)) (jt (jt (jg (Eq.refl (Mf c Am q pos ln y1 Aa Aq)) (jc (em (QP A1) [0,1] (mj c q pos ln o1 Aa Aq Am)) (jt (jt (jg (Eq.refl (Mf c Am q pos ln y1 Aa Aq)) (jg rz (jg g1 (gn fun g2=>jc (KB g2 (zAG c q pos ln y1 Aa Aq Am)) (cn fun y2 CF=>fun p r h=>by
   refine gs (tg:=[([],(Mf c Am q pos ln y1 Aa Aq))]) Hm [0,1,2,3,4,5,6,7,8] p (HU (AW Tryz.f59) 89 [m0]) (AM 129 [(1,.ref 2 0),(3,.ref 3 0),(4,.ref 4 0),(10,.ref 5 0),(11,.ref 6 0),(12,.ref 7 0),(64,.ints c.cells),(65,.i (c.cells.length:Int)),(66,.i Am),(89,.it 8)]) (zAF c q pos ln y1 Aa Aq Am) ?_;refine r0 8 89 #[90] B7 9 CF (rI n c Am q pos ln Aa Aq y1) ?_;cases y2 with
   | s0 LA=>
    dsimp only at h
    revert r;apply gO;exact gw 128 (lG Hm [0,1,2,3,4] (AF _ _ · m0 AB)))))))))))))))))))))))))))))))))) (lE Hm [2] [0,1])
theorem rG {n:Nat} {c:AC} {q:AA} {pos:List Int} {ln:Nat} {lost:List Int} {r:Bool×(List Int)} (h:Oi n c q pos ln lost=some r):EQ 59 [.ref 0 0] [some (.cells (AH c++AD q++[.ints pos,.msl 1 1 0 ln])),some (.ints lost)] (.bool r.1) [some (.cells (AH c++AD q++[.ints pos,.msl 1 1 0 ln])),some (.ints r.2)] false:=by
 refine ot Tryz.func59 fun B N=>?_
 revert r;apply gO;exact jt (jt (lN Hm [0,1,2,3,4] ((rK B N c q pos ln lost n) _ _ · n Nat.le.refl)))
end Go.Proofs.YtekkngkphejfcaaGreatDoor
namespace Go.Proofs.YtekkngkphejfcaaGreatDoor
open Go.RowKit
set_option maxRecDepth 100000
set_option maxHeartbeats 40000000
theorem tM:Af (Ax Tryz.f89 1) [] (List.range 18) []:=by unfold Af;kernel_rfl
def ri:BJ:=fun i=>match i with
 | 1=>.ord [] (List.range 18) []
 | _=>.no
def pv (n:Nat) (s_ t_:Int) (c:AC) (q:AA) (pos:List Int) (ln:Nat) (lost:List Int):Option (Bool×(List Int)):=
 if (0<=s_/\ s_<(q.values.length:Int))/\ (0<=t_/\ t_<(q.values.length:Int))/\ AG ((q.values.getD ((s_).toNat) 0)-(q.values.getD ((t_).toNat) 0))/\ AG (0-((q.values.getD ((s_).toNat) 0)-(q.values.getD ((t_).toNat) 0))) then
  some ((decide ((if (0-((q.values.getD ((s_).toNat) 0)-(q.values.getD ((t_).toNat) 0)))>((q.values.getD ((s_).toNat) 0)-(q.values.getD ((t_).toNat) 0)) then (0-((q.values.getD ((s_).toNat) 0)-(q.values.getD ((t_).toNat) 0))) else ((q.values.getD ((s_).toNat) 0)-(q.values.getD ((t_).toNat) 0)))>=c.lo)),lost)
 else none
def YT (n:Nat) (s_ t_:Int) (c:AC) (q:AA) (pos:List Int) (ln:Nat) (lost:List Int):Option (Bool×(List Int)):=pv n s_ t_ c q pos ln lost
theorem zEc {n:Nat} {s_ t_:Int} {c:AC} {q:AA} {pos:List Int} {ln:Nat} {lost:List Int} {r:Bool×(List Int)} (h:YT n s_ t_ c q pos ln lost=some r):EQ 89 [.i s_,.i t_,.ref 0 0] [some (.cells [.ref 1 0]),some (.cells (AH c++AD q++[.ints pos,.msl 2 1 0 ln])),some (.ints lost)] (.bool r.1) [some (.cells [.ref 1 0]),some (.cells (AH c++AD q++[.ints pos,.msl 2 1 0 ln])),some (.ints r.2)] false:=by
 refine ot Tryz.func89 fun B N=>?_
 revert r;apply gO;exact jg tM (gc (gi (gc (gi (gc (gw 23 (gw 26 (lE ri [5] [0,1,2]))))))))
theorem s5:Af (Ax Tryz.f90 1) [] (List.range 6) []:=by unfold Af;kernel_rfl
def RM:BJ:=fun i=>match i with
 | 1=>.ord [] (List.range 6) []
 | _=>.no
def lA (n:Nat) (s_ t_:Int) (c:AC) (q:AA) (pos:List Int) (ln:Nat) (lost:List Int):Option (Bool×(List Int)):=
 if (0<=s_/\ s_<=(IntKind.i64.bits:Int))/\ (0<=t_/\ t_<=(IntKind.i64.bits:Int)) then
  bif ((bits .and .i64 (IntKind.i64.wrap (1*2 ^ (s_).toNat)) c.set)==0) then
   bif ((bits .and .i64 (IntKind.i64.wrap (1*2 ^ (t_).toNat)) c.set)==0) then
    some (true,lost)
   else
    some (((bits .and .i64 (IntKind.i64.wrap (1*2 ^ (s_).toNat)) c.other)==0),lost)
  else
   bif ((bits .and .i64 (IntKind.i64.wrap (1*2 ^ (t_).toNat)) c.other)==0) then
    bif ((bits .and .i64 (IntKind.i64.wrap (1*2 ^ (t_).toNat)) c.set)==0) then
     some (true,lost)
    else
     some (((bits .and .i64 (IntKind.i64.wrap (1*2 ^ (s_).toNat)) c.other)==0),lost)
   else
    some (false,lost)
 else none
def WV (n:Nat) (s_ t_:Int) (c:AC) (q:AA) (pos:List Int) (ln:Nat) (lost:List Int):Option (Bool×(List Int)):=lA n s_ t_ c q pos ln lost
theorem xW {n:Nat} {s_ t_:Int} {c:AC} {q:AA} {pos:List Int} {ln:Nat} {lost:List Int} {r:Bool×(List Int)} (h:WV n s_ t_ c q pos ln lost=some r):EQ 90 [.i s_,.i t_,.ref 0 0] [some (.cells [.ref 1 0]),some (.cells (AH c++AD q++[.ints pos,.msl 2 1 0 ln])),some (.ints lost)] (.bool r.1) [some (.cells [.ref 1 0]),some (.cells (AH c++AD q++[.ints pos,.msl 2 1 0 ln])),some (.ints r.2)] false:=by
 refine ot Tryz.func90 fun B N=>?_
 revert r;apply gO;exact jg s5 (gc (gi (gi (bi 19 (bi 38 (lE RM [5] [0,1,2]) (lE RM [5] [0,1,2])) (bi 28 (bi 38 (lE RM [5] [0,1,2]) (lE RM [5] [0,1,2])) (lE RM [5] [0,1,2]))))))
theorem sv:Af (Ax Tryz.f88 1) [] (List.range 16) []:=by unfold Af;kernel_rfl
theorem sr:Af (Ax Tryz.f88 2) [([0,1,2,3,4,5,6,7,8,9,10,11,12,13],14)] [15] [16]:=by unfold Af;kernel_rfl
theorem sq:Af (Ax Tryz.f88 9) [] [0,1,2,3] [4]:=by unfold Af;kernel_rfl
theorem su:Af (Ax Tryz.f88 10) [] [0,1,2,3] [4]:=by unfold Af;kernel_rfl
def LO:BJ:=fun i=>match i with
 | 1=>.ord [] (List.range 16) []
 | 2=>.ord [([0,1,2,3,4,5,6,7,8,9,10,11,12,13],14)] [15] [16]
 | 9=>.ord [] [0,1,2,3] [4]
 | 10=>.ord [] [0,1,2,3] [4]
 | _=>.no
def zA5 (c:AC) (q:AA) (pos:List Int) (ln:Nat) (lost:List Int):DH:=[some (.cells [.ref 1 0]),some (.cells (AH c++AD q++[.ints pos,.msl 2 1 0 ln])),some (.ints lost),some (.cells [.fn 89 1 (L1 [.ref 0 0])]),some (.cells [.i (pos.getD ((c.cells.getD 1 0).toNat) 0)]),some (.cells [.i 0]),some (.cells [.i 0])]
def zA4 (c:AC) (q:AA) (pos:List Int) (ln:Nat) (lost:List Int):DH:=[some (.cells [.ref 1 0]),some (.cells (AH c++AD q++[.ints pos,.msl 2 1 0 ln])),some (.ints lost),some (.cells [.fn 89 1 (L1 [.ref 0 0])]),some (.cells [.i (pos.getD ((c.cells.getD 1 0).toNat) 0)]),some (.cells [.i 0]),some (.cells [.i 0]),some (.iter ((BK (pos.getD ((c.cells.getD 0 0).toNat) 0)).map B7))]
def zA3 (c:AC) (q:AA) (pos:List Int) (ln:Nat) (Db:List Int) (Da FV:Int):DH:=[some (.cells [.ref 1 0]),some (.cells (AH c++AD q++[.ints pos,.msl 2 1 0 ln])),some (.ints Db),some (.cells [.fn 89 1 (L1 [.ref 0 0])]),some (.cells [.i (pos.getD ((c.cells.getD 1 0).toNat) 0)]),some (.cells [.i Da]),some (.cells [.i FV]),none]
def zA2 (c:AC) (q:AA) (pos:List Int) (ln:Nat) (y2:(List Int)) (Da FV:Int):DH:=[some (.cells [.ref 1 0]),some (.cells (AH c++AD q++[.ints pos,.msl 2 1 0 ln])),some (.ints y2),some (.cells [.fn 89 1 (L1 [.ref 0 0])]),some (.cells [.i (pos.getD ((c.cells.getD 1 0).toNat) 0)]),some (.cells [.i Da]),some (.cells [.i FV]),none]
def m4 (c:AC) (q:AA) (pos:List Int) (ln:Nat) (Cc:List Int) (Cb Ca A2:Int):DH:=[some (.cells [.ref 1 0]),some (.cells (AH c++AD q++[.ints pos,.msl 2 1 0 ln])),some (.ints Cc),some (.cells [.fn 89 1 (L1 [.ref 0 0])]),some (.cells [.i (pos.getD ((c.cells.getD 1 0).toNat) 0)]),some (.cells [.i Cb]),some (.cells [.i Ca]),none,some (.cells [.i A2])]
def zA1 (c:AC) (q:AA) (pos:List Int) (ln:Nat) (Cc:List Int) (Cb Ca A2:Int):DH:=[some (.cells [.ref 1 0]),some (.cells (AH c++AD q++[.ints pos,.msl 2 1 0 ln])),some (.ints Cc),some (.cells [.fn 89 1 (L1 [.ref 0 0])]),some (.cells [.i (pos.getD ((c.cells.getD 1 0).toNat) 0)]),some (.cells [.i Cb]),some (.cells [.i Ca]),none,some (.cells [.i A2]),some (.iter ((BK (pos.getD ((c.cells.getD 1 0).toNat) 0)).map B7))]
def mz (c:AC) (q:AA) (pos:List Int) (ln:Nat) (DP:List Int) (C5 C4 A2:Int):DH:=[some (.cells [.ref 1 0]),some (.cells (AH c++AD q++[.ints pos,.msl 2 1 0 ln])),some (.ints DP),some (.cells [.fn 89 1 (L1 [.ref 0 0])]),some (.cells [.i (pos.getD ((c.cells.getD 1 0).toNat) 0)]),some (.cells [.i C5]),some (.cells [.i C4]),none,some (.cells [.i A2]),none]
inductive Ke where
 | s0 (DP:List Int) (C5 C4:Int)
def ka (c:AC) (q:AA) (pos:List Int) (ln:Nat) (A2:Int):Ke -> DH
 | .s0 DP C5 C4=>[some (.cells [.ref 1 0]),some (.cells (AH c++AD q++[.ints pos,.msl 2 1 0 ln])),some (.ints DP),some (.cells [.fn 89 1 (L1 [.ref 0 0])]),some (.cells [.i (pos.getD ((c.cells.getD 1 0).toNat) 0)]),some (.cells [.i C5]),some (.cells [.i C4]),none,some (.cells [.i A2]),none]
def WK (n:Nat) (c:AC) (q:AA) (pos:List Int) (ln:Nat) (A2 DB:Int) (DP:List Int) (C5 C4:Int):Option Ke:=
 (YT n A2 DB c q pos ln DP).bind fun OS=>
  bif OS.1 then
   if (0<=A2/\ A2<=(IntKind.i64.bits:Int))/\ (0<=DB/\ DB<=(IntKind.i64.bits:Int)) then
    some (.s0 OS.2 (bits .or .i64 C5 (IntKind.i64.wrap (1*2 ^ (A2).toNat))) (bits .or .i64 C4 (IntKind.i64.wrap (1*2 ^ (DB).toNat))))
   else none
  else
   some (.s0 OS.2 C5 C4)
def kZ (n:Nat) (c:AC) (q:AA) (pos:List Int) (ln:Nat) (A2 DB:Int):Ke -> Option Ke
 | .s0 DP C5 C4=>WK n c q pos ln A2 DB DP C5 C4
def WL (n:Nat) (c:AC) (q:AA) (pos:List Int) (ln:Nat) (A2 DB:Int) (s:Ke):Option Ke:=kZ n c q pos ln A2 DB s
theorem w5 (n:Nat) (c:AC) (q:AA) (pos:List Int) (ln:Nat) (A2:Int) (l B:Nat) (N:Yd 10) (DB:Int) (s:Ke) (r:Ke) (h:WL n c q pos ln A2 DB s=some r):TA l B N (DX 10 [] 0 (ka c q pos ln A2 r)) Tryz.f88 45 ⟨AM 69 [(3,.ref 3 0),(9,.ref 5 0),(10,.ref 6 0),(11,.ref 8 0),(45,.it 9),(46,.i DB)],ka c q pos ln A2 s⟩:=by
 cases s with
 | s0 DP C5 C4=>
  replace h:WK n c q pos ln A2 DB DP C5 C4=some r:=h;unfold WK at h;refine ag LO [0,1,2,3,4,5,6,7,8,9] H0 (AM 69 [(3,.ref 3 0),(9,.ref 5 0),(10,.ref 6 0),(11,.ref 8 0),(12,.i DB)]) (mz c q pos ln DP C5 C4 A2) fun N=>?_
  revert r;apply gO;exact ce zEc [0,1,2] (mz c q pos ln DP C5 C4 A2) fun _=>bi 50 (jg sq (gc (gi (jt (jg su (gi (jt (lF fun p=>rr LO [0,1,2,3,4,5,6,7,8,9] rfl p)))))))) (lF fun p=>rr LO [0,1,2,3,4,5,6,7,8,9] rfl p)
inductive Kf where
 | s0 (Cc:List Int) (Cb Ca:Int)
def kb (c:AC) (q:AA) (pos:List Int) (ln:Nat):Kf -> DH
 | .s0 Cc Cb Ca=>[some (.cells [.ref 1 0]),some (.cells (AH c++AD q++[.ints pos,.msl 2 1 0 ln])),some (.ints Cc),some (.cells [.fn 89 1 (L1 [.ref 0 0])]),some (.cells [.i (pos.getD ((c.cells.getD 1 0).toNat) 0)]),some (.cells [.i Cb]),some (.cells [.i Ca]),none]
def WJ (n:Nat) (c:AC) (q:AA) (pos:List Int) (ln:Nat) (A2:Int) (Cc:List Int) (Cb Ca:Int):Option Kf:=
 if 0<=(pos.getD ((c.cells.getD 1 0).toNat) 0)/\ (pos.getD ((c.cells.getD 1 0).toNat) 0)<9223372036854775808 then
  (CC (WL n c q pos ln A2) (BK (pos.getD ((c.cells.getD 1 0).toNat) 0)) (.s0 Cc Cb Ca)).bind fun OT=>
   match OT with
   | .s0 UV UU UT=>
    some (.s0 UV UU UT)
 else none
def kY (n:Nat) (c:AC) (q:AA) (pos:List Int) (ln:Nat) (A2:Int):Kf -> Option Kf
 | .s0 Cc Cb Ca=>WJ n c q pos ln A2 Cc Cb Ca
def WM (n:Nat) (c:AC) (q:AA) (pos:List Int) (ln:Nat) (A2:Int) (s:Kf):Option Kf:=kY n c q pos ln A2 s
theorem w4 (n:Nat) (c:AC) (q:AA) (pos:List Int) (ln:Nat) (l B:Nat) (N:Yd 8) (A2:Int) (s:Kf) (r:Kf) (h:WM n c q pos ln A2 s=some r):TA l B N (DX 8 [] 0 (kb c q pos ln r)) Tryz.f88 42 ⟨AM 69 [(0,.ref 1 0),(3,.ref 3 0),(5,.i (c.cells.getD 0 0)),(6,.i (c.cells.getD 1 0)),(8,.ref 4 0),(9,.ref 5 0),(10,.ref 6 0),(42,.it 7),(43,.i A2)],kb c q pos ln s⟩:=by
 cases s with
 | s0 Cc Cb Ca=>
  replace h:WJ n c q pos ln A2 Cc Cb Ca=some r:=h;unfold WJ at h;refine ag LO [0,1,2,3,4,5,6,7,8] (H0.t) (AM 69 [(3,.ref 3 0),(8,.ref 4 0),(9,.ref 5 0),(10,.ref 6 0),(11,.ref 8 0)]) (m4 c q pos ln Cc Cb Ca A2) fun N=>?_
  revert r;apply gO
  exact gn fun d4=>jc (KB d4 (m4 c q pos ln Cc Cb Ca A2)) (cn fun OT cu=>fun p r h=>by
   refine gs LO [0,1,2,3,4,5,6,7,8,9] p (HU (VX Tryz.f88 42) 45 []) (AM 69 [(3,.ref 3 0),(9,.ref 5 0),(10,.ref 6 0),(11,.ref 8 0),(45,.it 9)]) (zA1 c q pos ln Cc Cb Ca A2) ?_;refine r0 9 45 #[46] B7 10 cu (w5 n c q pos ln A2) ?_;cases OT with
   | s0 UV UU UT=>
    dsimp only at h
    revert r;apply gO;exact lF fun p=>rr LO [0,1,2,3,4,5,6,7] rfl p)
def kX (n:Nat) (c:AC) (q:AA) (pos:List Int) (ln:Nat) (lost:List Int):Option (Bool×(List Int)):=
 if ((0:Int)<=0/\ 0<(c.cells.length:Int))/\ ((0:Int)<=1/\ 1<(c.cells.length:Int))/\ (0<=(c.cells.getD 0 0)/\ (c.cells.getD 0 0)<(pos.length:Int))/\ (0<=(c.cells.getD 1 0)/\ (c.cells.getD 1 0)<(pos.length:Int))/\ (0<=(pos.getD ((c.cells.getD 0 0).toNat) 0)/\ (pos.getD ((c.cells.getD 0 0).toNat) 0)<9223372036854775808) then
  (CC (WM n c q pos ln) (BK (pos.getD ((c.cells.getD 0 0).toNat) 0)) (.s0 lost 0 0)).bind fun y1=>
   match y1 with
   | .s0 Db Da FV=>
    (DJ n (c.cells.getD 0 0) (bits .xor .i64 (-1) Da) c q pos ln Db).bind fun y2=>
     (DJ n (c.cells.getD 1 0) (bits .xor .i64 (-1) FV) c q pos ln y2).bind fun y3=>
      some (true,y3)
 else none
def aP (n:Nat) (c:AC) (q:AA) (pos:List Int) (ln:Nat) (lost:List Int):Option (Bool×(List Int)):=kX n c q pos ln lost
theorem wz {n:Nat} {c:AC} {q:AA} {pos:List Int} {ln:Nat} {lost:List Int} {r:Bool×(List Int)} (h:aP n c q pos ln lost=some r):EQ 88 [.ref 1 0,.fn 89 1 (L1 [.ref 0 0])] [some (.cells [.ref 1 0]),some (.cells (AH c++AD q++[.ints pos,.msl 2 1 0 ln])),some (.ints lost)] (.bool r.1) [some (.cells [.ref 1 0]),some (.cells (AH c++AD q++[.ints pos,.msl 2 1 0 ln])),some (.ints r.2)] false:=by
 refine ot Tryz.func88 fun B N=>?_
 revert r;apply gO
 exact jg sv (gc (gi (gc (gi (jg sr (gc (gi (gc (gi (jt (gn fun g4=>jc (KB g4 (zA5 c q pos ln lost)) (cn fun y1 A1=>fun p r h=>by
  refine gs LO [0,1,2,3,4,5,6,7] p (HU (AW Tryz.f88) 42 []) (AM 69 [(0,.ref 1 0),(3,.ref 3 0),(5,.i (c.cells.getD 0 0)),(6,.i (c.cells.getD 1 0)),(8,.ref 4 0),(9,.ref 5 0),(10,.ref 6 0),(42,.it 7)]) (zA4 c q pos ln lost) ?_;refine r0 7 42 #[43] B7 8 A1 (w4 n c q pos ln) ?_;cases y1 with
  | s0 Db Da FV=>
   dsimp only at h
   revert r;apply gO;exact ce Fv [1,2] (zA3 c q pos ln Db Da FV) fun y2=>ce Fv [1,2] (zA2 c q pos ln y2 Da FV) fun _=>lE LO [4] [0,1,2]))))))))))))
theorem sp:Af (Ax Tryz.f88 1) [] (List.range 16) []:=by unfold Af;kernel_rfl
theorem sk:Af (Ax Tryz.f88 2) [([0,1,2,3,4,5,6,7,8,9,10,11,12,13],14)] [15] [16]:=by unfold Af;kernel_rfl
theorem sj:Af (Ax Tryz.f88 9) [] [0,1,2,3] [4]:=by unfold Af;kernel_rfl
theorem sn:Af (Ax Tryz.f88 10) [] [0,1,2,3] [4]:=by unfold Af;kernel_rfl
def LN:BJ:=fun i=>match i with
 | 1=>.ord [] (List.range 16) []
 | 2=>.ord [([0,1,2,3,4,5,6,7,8,9,10,11,12,13],14)] [15] [16]
 | 9=>.ord [] [0,1,2,3] [4]
 | 10=>.ord [] [0,1,2,3] [4]
 | _=>.no
def zA0 (c:AC) (q:AA) (pos:List Int) (ln:Nat) (lost:List Int):DH:=[some (.cells [.ref 1 0]),some (.cells (AH c++AD q++[.ints pos,.msl 2 1 0 ln])),some (.ints lost),some (.cells [.fn 90 1 (L1 [.ref 0 0])]),some (.cells [.i (pos.getD ((c.cells.getD 1 0).toNat) 0)]),some (.cells [.i 0]),some (.cells [.i 0])]
def zAz (c:AC) (q:AA) (pos:List Int) (ln:Nat) (lost:List Int):DH:=[some (.cells [.ref 1 0]),some (.cells (AH c++AD q++[.ints pos,.msl 2 1 0 ln])),some (.ints lost),some (.cells [.fn 90 1 (L1 [.ref 0 0])]),some (.cells [.i (pos.getD ((c.cells.getD 1 0).toNat) 0)]),some (.cells [.i 0]),some (.cells [.i 0]),some (.iter ((BK (pos.getD ((c.cells.getD 0 0).toNat) 0)).map B7))]
def zAy (c:AC) (q:AA) (pos:List Int) (ln:Nat) (Db:List Int) (Da FV:Int):DH:=[some (.cells [.ref 1 0]),some (.cells (AH c++AD q++[.ints pos,.msl 2 1 0 ln])),some (.ints Db),some (.cells [.fn 90 1 (L1 [.ref 0 0])]),some (.cells [.i (pos.getD ((c.cells.getD 1 0).toNat) 0)]),some (.cells [.i Da]),some (.cells [.i FV]),none]
def zAx (c:AC) (q:AA) (pos:List Int) (ln:Nat) (y2:(List Int)) (Da FV:Int):DH:=[some (.cells [.ref 1 0]),some (.cells (AH c++AD q++[.ints pos,.msl 2 1 0 ln])),some (.ints y2),some (.cells [.fn 90 1 (L1 [.ref 0 0])]),some (.cells [.i (pos.getD ((c.cells.getD 1 0).toNat) 0)]),some (.cells [.i Da]),some (.cells [.i FV]),none]
def my (c:AC) (q:AA) (pos:List Int) (ln:Nat) (Cc:List Int) (Cb Ca A2:Int):DH:=[some (.cells [.ref 1 0]),some (.cells (AH c++AD q++[.ints pos,.msl 2 1 0 ln])),some (.ints Cc),some (.cells [.fn 90 1 (L1 [.ref 0 0])]),some (.cells [.i (pos.getD ((c.cells.getD 1 0).toNat) 0)]),some (.cells [.i Cb]),some (.cells [.i Ca]),none,some (.cells [.i A2])]
def zAw (c:AC) (q:AA) (pos:List Int) (ln:Nat) (Cc:List Int) (Cb Ca A2:Int):DH:=[some (.cells [.ref 1 0]),some (.cells (AH c++AD q++[.ints pos,.msl 2 1 0 ln])),some (.ints Cc),some (.cells [.fn 90 1 (L1 [.ref 0 0])]),some (.cells [.i (pos.getD ((c.cells.getD 1 0).toNat) 0)]),some (.cells [.i Cb]),some (.cells [.i Ca]),none,some (.cells [.i A2]),some (.iter ((BK (pos.getD ((c.cells.getD 1 0).toNat) 0)).map B7))]
def mx (c:AC) (q:AA) (pos:List Int) (ln:Nat) (DP:List Int) (C5 C4 A2:Int):DH:=[some (.cells [.ref 1 0]),some (.cells (AH c++AD q++[.ints pos,.msl 2 1 0 ln])),some (.ints DP),some (.cells [.fn 90 1 (L1 [.ref 0 0])]),some (.cells [.i (pos.getD ((c.cells.getD 1 0).toNat) 0)]),some (.cells [.i C5]),some (.cells [.i C4]),none,some (.cells [.i A2]),none]
inductive Kc where
 | s0 (DP:List Int) (C5 C4:Int)
def kV (c:AC) (q:AA) (pos:List Int) (ln:Nat) (A2:Int):Kc -> DH
 | .s0 DP C5 C4=>[some (.cells [.ref 1 0]),some (.cells (AH c++AD q++[.ints pos,.msl 2 1 0 ln])),some (.ints DP),some (.cells [.fn 90 1 (L1 [.ref 0 0])]),some (.cells [.i (pos.getD ((c.cells.getD 1 0).toNat) 0)]),some (.cells [.i C5]),some (.cells [.i C4]),none,some (.cells [.i A2]),none]
def WG (n:Nat) (c:AC) (q:AA) (pos:List Int) (ln:Nat) (A2 DB:Int) (DP:List Int) (C5 C4:Int):Option Kc:=
 (WV n A2 DB c q pos ln DP).bind fun OS=>
  bif OS.1 then
   if (0<=A2/\ A2<=(IntKind.i64.bits:Int))/\ (0<=DB/\ DB<=(IntKind.i64.bits:Int)) then
    some (.s0 OS.2 (bits .or .i64 C5 (IntKind.i64.wrap (1*2 ^ (A2).toNat))) (bits .or .i64 C4 (IntKind.i64.wrap (1*2 ^ (DB).toNat))))
   else none
  else
   some (.s0 OS.2 C5 C4)
def kU (n:Nat) (c:AC) (q:AA) (pos:List Int) (ln:Nat) (A2 DB:Int):Kc -> Option Kc
 | .s0 DP C5 C4=>WG n c q pos ln A2 DB DP C5 C4
def WH (n:Nat) (c:AC) (q:AA) (pos:List Int) (ln:Nat) (A2 DB:Int) (s:Kc):Option Kc:=kU n c q pos ln A2 DB s
theorem wy (n:Nat) (c:AC) (q:AA) (pos:List Int) (ln:Nat) (A2:Int) (l B:Nat) (N:Yd 10) (DB:Int) (s:Kc) (r:Kc) (h:WH n c q pos ln A2 DB s=some r):TA l B N (DX 10 [] 0 (kV c q pos ln A2 r)) Tryz.f88 45 ⟨AM 69 [(3,.ref 3 0),(9,.ref 5 0),(10,.ref 6 0),(11,.ref 8 0),(45,.it 9),(46,.i DB)],kV c q pos ln A2 s⟩:=by
 cases s with
 | s0 DP C5 C4=>
  replace h:WG n c q pos ln A2 DB DP C5 C4=some r:=h;unfold WG at h;refine ag LN [0,1,2,3,4,5,6,7,8,9] H0 (AM 69 [(3,.ref 3 0),(9,.ref 5 0),(10,.ref 6 0),(11,.ref 8 0),(12,.i DB)]) (mx c q pos ln DP C5 C4 A2) fun N=>?_
  revert r;apply gO;exact ce xW [0,1,2] (mx c q pos ln DP C5 C4 A2) fun _=>bi 50 (jg sj (gc (gi (jt (jg sn (gi (jt (lF fun p=>rr LN [0,1,2,3,4,5,6,7,8,9] rfl p)))))))) (lF fun p=>rr LN [0,1,2,3,4,5,6,7,8,9] rfl p)
inductive Kd where
 | s0 (Cc:List Int) (Cb Ca:Int)
def kW (c:AC) (q:AA) (pos:List Int) (ln:Nat):Kd -> DH
 | .s0 Cc Cb Ca=>[some (.cells [.ref 1 0]),some (.cells (AH c++AD q++[.ints pos,.msl 2 1 0 ln])),some (.ints Cc),some (.cells [.fn 90 1 (L1 [.ref 0 0])]),some (.cells [.i (pos.getD ((c.cells.getD 1 0).toNat) 0)]),some (.cells [.i Cb]),some (.cells [.i Ca]),none]
def WF (n:Nat) (c:AC) (q:AA) (pos:List Int) (ln:Nat) (A2:Int) (Cc:List Int) (Cb Ca:Int):Option Kd:=
 if 0<=(pos.getD ((c.cells.getD 1 0).toNat) 0)/\ (pos.getD ((c.cells.getD 1 0).toNat) 0)<9223372036854775808 then
  (CC (WH n c q pos ln A2) (BK (pos.getD ((c.cells.getD 1 0).toNat) 0)) (.s0 Cc Cb Ca)).bind fun OT=>
   match OT with
   | .s0 UV UU UT=>
    some (.s0 UV UU UT)
 else none
def kT (n:Nat) (c:AC) (q:AA) (pos:List Int) (ln:Nat) (A2:Int):Kd -> Option Kd
 | .s0 Cc Cb Ca=>WF n c q pos ln A2 Cc Cb Ca
def WI (n:Nat) (c:AC) (q:AA) (pos:List Int) (ln:Nat) (A2:Int) (s:Kd):Option Kd:=kT n c q pos ln A2 s
theorem wx (n:Nat) (c:AC) (q:AA) (pos:List Int) (ln:Nat) (l B:Nat) (N:Yd 8) (A2:Int) (s:Kd) (r:Kd) (h:WI n c q pos ln A2 s=some r):TA l B N (DX 8 [] 0 (kW c q pos ln r)) Tryz.f88 42 ⟨AM 69 [(0,.ref 1 0),(3,.ref 3 0),(5,.i (c.cells.getD 0 0)),(6,.i (c.cells.getD 1 0)),(8,.ref 4 0),(9,.ref 5 0),(10,.ref 6 0),(42,.it 7),(43,.i A2)],kW c q pos ln s⟩:=by
 cases s with
 | s0 Cc Cb Ca=>
  replace h:WF n c q pos ln A2 Cc Cb Ca=some r:=h;unfold WF at h;refine ag LN [0,1,2,3,4,5,6,7,8] (H0.t) (AM 69 [(3,.ref 3 0),(8,.ref 4 0),(9,.ref 5 0),(10,.ref 6 0),(11,.ref 8 0)]) (my c q pos ln Cc Cb Ca A2) fun N=>?_
  revert r;apply gO
  exact gn fun d4=>jc (KB d4 (my c q pos ln Cc Cb Ca A2)) (cn fun OT cu=>fun p r h=>by
   refine gs LN [0,1,2,3,4,5,6,7,8,9] p (HU (VX Tryz.f88 42) 45 []) (AM 69 [(3,.ref 3 0),(9,.ref 5 0),(10,.ref 6 0),(11,.ref 8 0),(45,.it 9)]) (zAw c q pos ln Cc Cb Ca A2) ?_;refine r0 9 45 #[46] B7 10 cu (wy n c q pos ln A2) ?_;cases OT with
   | s0 UV UU UT=>
    dsimp only at h
    revert r;apply gO;exact lF fun p=>rr LN [0,1,2,3,4,5,6,7] rfl p)
def kS (n:Nat) (c:AC) (q:AA) (pos:List Int) (ln:Nat) (lost:List Int):Option (Bool×(List Int)):=
 if ((0:Int)<=0/\ 0<(c.cells.length:Int))/\ ((0:Int)<=1/\ 1<(c.cells.length:Int))/\ (0<=(c.cells.getD 0 0)/\ (c.cells.getD 0 0)<(pos.length:Int))/\ (0<=(c.cells.getD 1 0)/\ (c.cells.getD 1 0)<(pos.length:Int))/\ (0<=(pos.getD ((c.cells.getD 0 0).toNat) 0)/\ (pos.getD ((c.cells.getD 0 0).toNat) 0)<9223372036854775808) then
  (CC (WI n c q pos ln) (BK (pos.getD ((c.cells.getD 0 0).toNat) 0)) (.s0 lost 0 0)).bind fun y1=>
   match y1 with
   | .s0 Db Da FV=>
    (DJ n (c.cells.getD 0 0) (bits .xor .i64 (-1) Da) c q pos ln Db).bind fun y2=>
     (DJ n (c.cells.getD 1 0) (bits .xor .i64 (-1) FV) c q pos ln y2).bind fun y3=>
      some (true,y3)
 else none
def aN (n:Nat) (c:AC) (q:AA) (pos:List Int) (ln:Nat) (lost:List Int):Option (Bool×(List Int)):=kS n c q pos ln lost
theorem ww {n:Nat} {c:AC} {q:AA} {pos:List Int} {ln:Nat} {lost:List Int} {r:Bool×(List Int)} (h:aN n c q pos ln lost=some r):EQ 88 [.ref 1 0,.fn 90 1 (L1 [.ref 0 0])] [some (.cells [.ref 1 0]),some (.cells (AH c++AD q++[.ints pos,.msl 2 1 0 ln])),some (.ints lost)] (.bool r.1) [some (.cells [.ref 1 0]),some (.cells (AH c++AD q++[.ints pos,.msl 2 1 0 ln])),some (.ints r.2)] false:=by
 refine ot Tryz.func88 fun B N=>?_
 revert r;apply gO
 exact jg sp (gc (gi (gc (gi (jg sk (gc (gi (gc (gi (jt (gn fun g4=>jc (KB g4 (zA0 c q pos ln lost)) (cn fun y1 A1=>fun p r h=>by
  refine gs LN [0,1,2,3,4,5,6,7] p (HU (AW Tryz.f88) 42 []) (AM 69 [(0,.ref 1 0),(3,.ref 3 0),(5,.i (c.cells.getD 0 0)),(6,.i (c.cells.getD 1 0)),(8,.ref 4 0),(9,.ref 5 0),(10,.ref 6 0),(42,.it 7)]) (zAz c q pos ln lost) ?_;refine r0 7 42 #[43] B7 8 A1 (wx n c q pos ln) ?_;cases y1 with
  | s0 Db Da FV=>
   dsimp only at h
   revert r;apply gO;exact ce Fv [1,2] (zAy c q pos ln Db Da FV) fun y2=>ce Fv [1,2] (zAx c q pos ln y2 Da FV) fun _=>lE LN [4] [0,1,2]))))))))))))
def eF (n:Nat) (c:AC) (q:AA) (pos:List Int) (ln:Nat) (lost:List Int):Option (Bool×(List Int)):=
 (aP n c q pos ln lost).bind fun y1=>
  some (y1.1,y1.2)
def OW (n:Nat) (c:AC) (q:AA) (pos:List Int) (ln:Nat) (lost:List Int):Option (Bool×(List Int)):=eF n c q pos ln lost
theorem zEb {n:Nat} {c:AC} {q:AA} {pos:List Int} {ln:Nat} {lost:List Int} {r:Bool×(List Int)} (h:OW n c q pos ln lost=some r):EQ 62 [.ref 0 0] [some (.cells (AH c++AD q++[.ints pos,.msl 1 1 0 ln])),some (.ints lost)] (.bool r.1) [some (.cells (AH c++AD q++[.ints pos,.msl 1 1 0 ln])),some (.ints r.2)] false:=by
 unfold OW eF at h;refine ot Tryz.func62 fun B N=>?_
 revert r;apply gO;exact ce wz [2,0,1] [some (.cells (AH c++AD q++[.ints pos,.msl 1 1 0 ln])),some (.ints lost),some (.cells [.ref 0 0])] fun _=>lE AE [2] [0,1]
def aa (n:Nat) (c:AC) (q:AA) (pos:List Int) (ln:Nat) (lost:List Int):Option (Bool×(List Int)):=
 (aN n c q pos ln lost).bind fun y1=>
  some (y1.1,y1.2)
def NS (n:Nat) (c:AC) (q:AA) (pos:List Int) (ln:Nat) (lost:List Int):Option (Bool×(List Int)):=aa n c q pos ln lost
theorem xV {n:Nat} {c:AC} {q:AA} {pos:List Int} {ln:Nat} {lost:List Int} {r:Bool×(List Int)} (h:NS n c q pos ln lost=some r):EQ 63 [.ref 0 0] [some (.cells (AH c++AD q++[.ints pos,.msl 1 1 0 ln])),some (.ints lost)] (.bool r.1) [some (.cells (AH c++AD q++[.ints pos,.msl 1 1 0 ln])),some (.ints r.2)] false:=by
 unfold NS aa at h;refine ot Tryz.func63 fun B N=>?_
 revert r;apply gO;exact ce ww [2,0,1] [some (.cells (AH c++AD q++[.ints pos,.msl 1 1 0 ln])),some (.ints lost),some (.cells [.ref 0 0])] fun _=>lE AE [2] [0,1]
end Go.Proofs.YtekkngkphejfcaaGreatDoor
namespace Go.Proofs.YtekkngkphejfcaaGreatDoor
abbrev zGG:=@List.drop_zero
end Go.Proofs.YtekkngkphejfcaaGreatDoor
namespace Go.Proofs.YtekkngkphejfcaaGreatDoor
open Go.RowKit
set_option maxRecDepth 100000
set_option maxHeartbeats 40000000
def zER (n:Nat) (s_:List Int):Option Unit:=
 some ()
def zET (n:Nat) (s_:List Int):Option Unit:=zER n s_
theorem zEQ {n:Nat} (s_:List Int) {r:Unit} (h:zET n s_=some r):EQ 85 [.ints s_] [] (.fn 107 1 (L1 [.ref 0 0])) [some (.cells [.ints s_])] true:=by
 refine ot Tryz.func85 fun B N=>?_
 revert r;apply gO;exact lE AE [2] [0]
inductive Qe where
 | l1 (x3:Int)
def OR (n:Nat) (self:Qe -> Option (List (Int×Int))) (s_:List Int) (x3:Int):Option (List (Int×Int)):=
 bif (decide (x3>=0)) then
  if 0<=x3/\ x3<(s_.length:Int) then
   Option.map (fun l=>(x3,s_.getD ((x3).toNat) 0)::l) (
    if AG (x3-1) then
     self (.l1 (x3-1))
    else none)
  else none
 else
  some []
def dx (n:Nat) (self:Qe -> Option (List (Int×Int))) (s_:List Int):Option (List (Int×Int)):=
 if AG ((s_.length:Int)-1) then
  self (.l1 ((s_.length:Int)-1))
 else none
def MN (s_:List Int):Nat -> Qe -> Option (List (Int×Int))
 | 0,_=>none
 | n+1,.l1 x3=>OR n (MN s_ n) s_ x3
def back (n:Nat) (s_:List Int):Option (List (Int×Int)):=dx n (MN s_ n) s_
def dy (C:EH Tryz.prog GG) (n:Nat) (s_:List Int) (r:List (Int×Int)):Qe -> Prop
 | .l1 x3=>∀ m0:Nat,n<=m0 -> ∀ i:Nat,i<=C.encs.length -> C.encs.drop i=r.map ON -> A3 Tryz.prog GG Fence.wide none 1 (C.Y 1 i) (C.Q 1) (Ah m0 (Ap (AW Tryz.f107) 0 [])) ⟨AM 19 [(0,.yl C.l),(1,.ref 0 0),(3,.i x3)],[some (.cells [.ints s_])]⟩
theorem zEN (C:EH Tryz.prog GG) (n:Nat) (self:Qe -> Option (List (Int×Int))) (s_:List Int) (AF: ∀ pt r,self pt=some r -> dy C n s_ r pt) (x3:Int) (r:List (Int×Int)) (h:OR n self s_ x3=some r):dy C (n+1) s_ r (.l1 x3):=by
 intro m0 AB;intro i hi hd;refine rd AB fun m0 AB=>?_
 unfold OR at h;have p:=H0;rcases Kz h with ⟨c0,h⟩ | ⟨c0,h⟩
 ·have p:=H0.b 8 c0;refine gs (AK 3 AE) [0] p (Dl (AW Tryz.f107) 3 [m0]) (AM 19 [(0,.yl C.l),(1,.ref 0 0),(3,.i x3)]) [some (.cells [.ints s_])] ?_;obtain ⟨g0,h⟩:=Fn h;have p:=H0.g g0;obtain ⟨r,h2,rfl⟩:=lZ h;clear h;have h:=h2;clear h2;obtain ⟨hx,hi,hd⟩:=om hd;refine A3.y (ops:=Ax Tryz.f107 3) HC.x 6 [0,1,3,18] [0] p (x:=ON (x3,s_.getD ((x3).toNat) 0)) (AM 19 [(0,.yl C.l),(1,.ref 0 0),(3,.i x3),(18,.bool false)]) [some (.cells [.ints s_])] (AM 19 [(0,.yl C.l),(1,.ref 0 0),(3,.i x3),(18,.bool true)]) [some (.cells [.ints s_])] (by kernel_rfl) (by kernel_rfl) (by kernel_rfl) hx (by kernel_rfl) ?_ ?_
  ·generalize i+1=i at hi hd ⊢
   obtain ⟨g1,h⟩:=Fn h;have p:=H0.w 10 g1;exact gg AE [0] p (AF _ _ h m0 AB i hi hd)
  ·exact TrI.e HC.x AE 6 H0 (by kernel_rfl) (.inr rfl)
 ·have p:=H0.b 8 c0;cases h;exact TrI.e HC.x AE 10 p (by kernel_rfl) (.inl (by rw [dX hi hd]))
theorem pa (C:EH Tryz.prog GG) (s_:List Int): ∀ (n:Nat) (pt:Qe) (r:List (Int×Int)),MN s_ n pt=some r -> dy C n s_ r pt
 | 0,_,_,h=>by cases h
 | n+1,.l1 x3,r,h=>zEN C n (MN s_ n) s_ (pa C s_ n) x3 r h
theorem zEO {n:Nat} (s_:List Int) {r:List (Int×Int)} (h:back n s_=some r) (C:EH Tryz.prog GG) (hC:C.encs=r.map ON):A3 Tryz.prog GG Fence.wide none 1 (C.Y 1 0) (C.Q 1) [.code (AW Tryz.f107)] ⟨AM 19 [(0,.yl C.l),(1,.ref 0 0)],[some (.cells [.ints s_])]⟩:=by
 suffices H: ∀ i:Nat,i<=C.encs.length -> C.encs.drop i=r.map ON -> A3 Tryz.prog GG Fence.wide none 1 (C.Y 1 i) (C.Q 1) [.code (AW Tryz.f107)] ⟨AM 19 [(0,.yl C.l),(1,.ref 0 0)],[some (.cells [.ints s_])]⟩ from H 0 (zE6 _) (by rw [zGG];exact hC)
 intro i hi hd;have AF:=pa C s_ n;unfold back at h
 generalize MN s_ n=self at h AF
 unfold dx at h;obtain ⟨g0,h⟩:=Fn h;have p:=H0.w 6 g0;exact gg AE [0] p (en n (AF _ _ h n Nat.le.refl i hi hd))
theorem zES {n:Nat} {s_:List Int} {r:List (Int×Int)} (h:back n s_=some r) (H:DH):EQ 85 [.ints s_] H (.it H.length) (H++[some (.iter (r.map ON))]) true:=by
 refine ES.iterN (c:=L1 [.ref 0 0]) (h0:=[some (.cells [.ints s_])]) (fn:=Tryz.f107) (zEQ (n:=0) s_ (r:=()) rfl) (by kernel_rfl) Tryz.func107 (by kernel_rfl) (by kernel_rfl) (by kernel_rfl) (fun C hC=>?_) H;have e:DV.yl C.l::(List.range 1).map (L1 [.ref 0 0])++List.replicate (Tryz.f107.ntmps-(1+1)) .any=AM 19 [(0,.yl C.l),(1,.ref 0 0)]:=by kernel_rfl
 rw [e];exact zEO s_ h C hC
end Go.Proofs.YtekkngkphejfcaaGreatDoor
namespace Go.Proofs.YtekkngkphejfcaaGreatDoor
open Go.RowKit
set_option maxRecDepth 100000
set_option maxHeartbeats 40000000
def um (n:Nat) (g_:List (List Int)) (AI:List Bool) (start:Int):Option Unit:=
 some ()
def uo (n:Nat) (g_:List (List Int)) (AI:List Bool) (start:Int):Option Unit:=um n g_ AI start
theorem ul {n:Nat} (g_:List (List Int)) (AI:List Bool) (start:Int) {r:Unit} (h:uo n g_ AI start=some r):EQ 114 [.sl 1 g_.length (Aw A8 g_),.bools AI,.i start] [] (.fn 127 3 (L1 [.ref 0 0,.ref 1 0,.ref 2 0])) [some (.cells [.sl 1 g_.length (Aw A8 g_)]),some (.cells [.i start]),some (.cells [.bools AI])] true:=by
 refine ot Tryz.func114 fun B N=>?_
 revert r;apply gO;exact lE AE [6] [0,2,1]
theorem sK:Af (Ax Tryz.f127 6) [] (List.range 8) []:=by unfold Af;kernel_rfl
def IT:BJ:=fun i=>match i with
 | 6=>.ord [] (List.range 8) []
 | _=>.no
def XG (g:List (List Int)) (start:Int) (inn o3:List Bool) (o4:List Int):DH:=[some (.cells [.sl 1 g.length (Aw A8 g)]),some (.cells [.i start]),some (.cells [.bools inn]),some (.bools o3),some (.ints o4)]
inductive JV where
 | l1 (x6:Nat) (o3:List Bool) (o4:List Int)
 | l2 (x6:Nat) (Bj:List Int) (CV BS:Int) (o3:List Bool) (o4:List Int)
 | l3 (o3:List Bool)
def My (n:Nat) (self:JV -> Option (List Int)) (g:List (List Int)) (start:Int) (inn:List Bool) (x6:Nat) (o3:List Bool) (o4:List Int):Option (List Int):=
 bif (decide ((x6:Int)>0)) then
  if ((0:Int)<=0/\ 0<(x6:Int))/\ 0+0<o4.length then
   Option.map (fun l=>(o4.getD (0+0) 0)::l) (
    if ((0:Int)<=0/\ 0<(x6:Int))/\ 0+0<o4.length/\ (0<=(o4.getD (0+0) 0)/\ (o4.getD (0+0) 0)<(g.length:Int)) then
     self (.l2 x6 (g.getD ((o4.getD (0+0) 0).toNat) []) (((g.getD ((o4.getD (0+0) 0).toNat) []).length:Nat):Int) 0 o3 o4)
    else none)
  else none
 else
  some []
def KN (n:Nat) (self:JV -> Option (List Int)) (g:List (List Int)) (start:Int) (inn:List Bool) (x6:Nat) (Bj:List Int) (CV BS:Int) (o3:List Bool) (o4:List Int):Option (List Int):=
 bif (decide (BS<CV)) then
  if (0<=BS/\ BS<(Bj.length:Int))/\ (0<=(Bj.getD ((BS).toNat) 0)/\ (Bj.getD ((BS).toNat) 0)<(inn.length:Int)) then
   bif (inn.getD ((Bj.getD ((BS).toNat) 0).toNat) false) then
    if (0<=(Bj.getD ((BS).toNat) 0)/\ (Bj.getD ((BS).toNat) 0)<(g.length:Int))/\ 0+((Bj.getD ((BS).toNat) 0).toNat)<o3.length then
     bif (!(o3.getD (0+((Bj.getD ((BS).toNat) 0).toNat)) false)) then
      if ((0=0/\ 1=([Bj.getD ((BS).toNat) 0]:List Int).length)/\ (0=0/\ x6=o4.length)/\ o4.length+([Bj.getD ((BS).toNat) 0]:List Int).length<=A7)/\ AG (BS+1) then
       self (.l2 (o4.length+([Bj.getD ((BS).toNat) 0]:List Int).length) Bj CV (BS+1) (o3.set (0+((Bj.getD ((BS).toNat) 0).toNat)) true) (o4++([Bj.getD ((BS).toNat) 0]:List Int)))
      else none
     else
      if AG (BS+1) then
       self (.l2 x6 Bj CV (BS+1) o3 o4)
      else none
    else none
   else
    if AG (BS+1) then
     self (.l2 x6 Bj CV (BS+1) o3 o4)
    else none
  else none
 else
  bif ((x6-1)==0) then
   if (0:Int)<=1/\ (1:Int)<=(x6:Int)/\ (x6:Int)<=(x6:Int) then
    self (.l3 o3)
   else none
  else
   if (0:Int)<=1/\ (1:Int)<=(x6:Int)/\ (x6:Int)<=(x6:Int) then
    if 1<=o4.length then
     self (.l1 (x6-1) o3 (o4.drop 1))
    else none
   else none
def Zc (n:Nat) (self:JV -> Option (List Int)) (g:List (List Int)) (start:Int) (inn:List Bool) (o3:List Bool):Option (List Int):=
 some []
def Zd (n:Nat) (self:JV -> Option (List Int)) (g:List (List Int)) (start:Int) (inn:List Bool):Option (List Int):=
 if (((g.length:Int):Int)=(g.length:Int)/\ 0<=(g.length:Int)/\ ((g.length:Int):Int)<=1000000000000)/\ (0<=start/\ start<(g.length:Int))/\ 0+((start).toNat)<(List.replicate g.length false).length then
  self (.l1 1 ((List.replicate g.length false).set (0+((start).toNat)) true) ([start]:List Int))
 else none
def ET (g:List (List Int)) (start:Int) (inn:List Bool):Nat -> JV -> Option (List Int)
 | 0,_=>none
 | n+1,.l1 x6 o3 o4=>My n (ET g start inn n) g start inn x6 o3 o4
 | n+1,.l2 x6 Bj CV BS o3 o4=>KN n (ET g start inn n) g start inn x6 Bj CV BS o3 o4
 | n+1,.l3 o3=>Zc n (ET g start inn n) g start inn o3
def GC (n:Nat) (g:List (List Int)) (start:Int) (inn:List Bool):Option (List Int):=Zd n (ET g start inn n) g start inn
def Mz (C:EH Tryz.prog GG) (n:Nat) (g:List (List Int)) (start:Int) (inn:List Bool) (r:List Int):JV -> Prop
 | .l1 x6 o3 o4=>∀ m0:Nat,n<=m0 -> ∀ i:Nat,i<=C.encs.length -> C.encs.drop i=r.map B7 -> A3 Tryz.prog GG Fence.wide none 3 (C.Y 3 i) (C.Q 3) (Ah m0 (Ap (AW Tryz.f127) 0 [])) ⟨AM 58 [(0,.yl C.l),(1,.ref 0 0),(3,.ref 2 0),(5,.msl 3 1 0 g.length),(6,.msl 4 1 0 x6)],[some (.cells [.sl 1 g.length (Aw A8 g)]),some (.cells [.i start]),some (.cells [.bools inn]),some (.bools o3),some (.ints o4)]⟩
 | .l2 x6 Bj CV BS o3 o4=>∀ m0 m1:Nat,n<=m0 -> n<=m1 -> ∀ i:Nat,i<=C.encs.length -> C.encs.drop i=r.map B7 -> A3 Tryz.prog GG Fence.wide none 3 (C.Y 3 i) (C.Q 3) (Ah m1 (Ap (AW Tryz.f127) 2 [m0])) ⟨AM 58 [(0,.yl C.l),(1,.ref 0 0),(3,.ref 2 0),(5,.msl 3 1 0 g.length),(6,.msl 4 1 0 x6),(33,.ints Bj),(34,.i CV),(35,.i BS)],[some (.cells [.sl 1 g.length (Aw A8 g)]),some (.cells [.i start]),some (.cells [.bools inn]),some (.bools o3),some (.ints o4)]⟩
 | .l3 o3=>∀ m0:Nat,n<=m0 -> ∀ i:Nat,i<=C.encs.length -> C.encs.drop i=r.map B7 -> A3 Tryz.prog GG Fence.wide none 3 (C.Y 3 i) (C.Q 3) (Ah m0 (Ap (AW Tryz.f127) 0 [])) ⟨AM 58 [(0,.yl C.l),(1,.ref 0 0),(3,.ref 2 0),(5,.msl 3 1 0 g.length),(6,.ints ([]:List Int))],[some (.cells [.sl 1 g.length (Aw A8 g)]),some (.cells [.i start]),some (.cells [.bools inn]),some (.bools o3)]⟩
theorem ug (C:EH Tryz.prog GG) (n:Nat) (self:JV -> Option (List Int)) (g:List (List Int)) (start:Int) (inn:List Bool) (AF: ∀ pt r,self pt=some r -> Mz C n g start inn r pt) (x6:Nat) (o3:List Bool) (o4:List Int) (r:List Int) (h:My n self g start inn x6 o3 o4=some r):Mz C (n+1) g start inn r (.l1 x6 o3 o4):=by
 intro m0 AB;intro i hi hd;refine rd AB fun m0 AB=>?_
 unfold My at h;have p:=H0;rcases Kz h with ⟨c0,h⟩ | ⟨c0,h⟩
 ·have p:=H0.b 19 c0;refine gs (AK 5 IT) [0,1,2,3,4] p (Dl (AW Tryz.f127) 5 [m0]) (AM 58 [(0,.yl C.l),(1,.ref 0 0),(3,.ref 2 0),(5,.msl 3 1 0 g.length),(6,.msl 4 1 0 x6)]) (XG g start inn o3 o4) ?_;obtain ⟨⟨g0,g1⟩,h⟩:=Fn h;have p:=H0.g g0 |>.g g1
  obtain ⟨r,h2,rfl⟩:=lZ h;clear h;have h:=h2;clear h2;obtain ⟨hx,hi,hd⟩:=om hd;refine A3.y (ops:=Ax Tryz.f127 5) HC.x 4 [0,1,3,5,6,27] [0,1,2,3,4] p (x:=B7 (o4.getD (0+0) 0)) (AM 58 [(0,.yl C.l),(1,.ref 0 0),(3,.ref 2 0),(5,.msl 3 1 0 g.length),(6,.msl 4 1 0 x6),(27,.bool false)]) (XG g start inn o3 o4) (AM 58 [(0,.yl C.l),(1,.ref 0 0),(3,.ref 2 0),(5,.msl 3 1 0 g.length),(6,.msl 4 1 0 x6),(27,.bool true)]) (XG g start inn o3 o4) (by kernel_rfl) (by kernel_rfl) (by kernel_rfl) hx (by kernel_rfl) ?_ ?_
  ·generalize i+1=i at hi hd ⊢
   obtain ⟨⟨g2,g3,g4⟩,h⟩:=Fn h;have p:=H0.g sK |>.g g2 |>.g g3 |>.g g4
   exact gg IT [0,1,2,3,4] p (en n (AF _ _ h m0 n AB Nat.le.refl i hi hd))
  ·exact TrI.e HC.x IT 6 H0 (by kernel_rfl) (.inr rfl)
 ·have p:=H0.b 19 c0;cases h;exact TrI.e HC.x IT 10 p (by kernel_rfl) (.inl (by rw [dX hi hd]))
theorem uf (C:EH Tryz.prog GG) (n:Nat) (self:JV -> Option (List Int)) (g:List (List Int)) (start:Int) (inn:List Bool) (AF: ∀ pt r,self pt=some r -> Mz C n g start inn r pt) (x6:Nat) (Bj:List Int) (CV BS:Int) (o3:List Bool) (o4:List Int) (r:List Int) (h:KN n self g start inn x6 Bj CV BS o3 o4=some r):Mz C (n+1) g start inn r (.l2 x6 Bj CV BS o3 o4):=by
 intro m0 m1 AB AR;intro i hi hd;have AB:=zBZ AB;refine rd AR fun m1 AR=>?_
 unfold KN at h;have p:=H0;rcases Kz h with ⟨c0,h⟩ | ⟨c0,h⟩
 ·obtain ⟨⟨g0,g1⟩,h⟩:=Fn h;have p:=H0.b 36 c0 |>.g g0 |>.g g1
  rcases Kz h with ⟨c1,h⟩ | ⟨c1,h⟩
  ·obtain ⟨⟨g2,g3⟩,h⟩:=Fn h;have p:=p.b 42 c1 |>.g g2 |>.g g3
   rcases Kz h with ⟨c2,h⟩ | ⟨c2,h⟩
   ·obtain ⟨⟨g4,g5⟩,h⟩:=Fn h;have p:=p.b 48 c2 |>.g g2 |>.g g3 |>.g g4 |>.w 57 g5
    exact gg IT [0,1,2,3,6] p (AF _ _ h m0 m1 AB AR i hi hd)
   ·obtain ⟨g4,h⟩:=Fn h;have p:=p.b 48 c2 |>.w 57 g4
    exact gg IT [0,1,2,3,4] p (AF _ _ h m0 m1 AB AR i hi hd)
  ·obtain ⟨g2,h⟩:=Fn h;have p:=p.b 42 c1 |>.w 57 g2
   exact gg IT [0,1,2,3,4] p (AF _ _ h m0 m1 AB AR i hi hd)
 ·have p:=H0.b 36 c0;rcases Kz h with ⟨c1,h⟩ | ⟨c1,h⟩
  ·obtain ⟨g0,h⟩:=Fn h;have p:=p.g g0 |>.o 21 (AS.mse_nil (k:=4) (m:=1) (o:=1) (eq_of_beq c1))
   exact gg IT [0,1,2,3] p (AF _ _ h m0 AB i hi hd)
  ·obtain ⟨g0,h⟩:=Fn h;have p:=p.g g0 |>.o 21 (AS.mse_msl (k:=4) (m:=1) (o:=1) (WB c1) rfl)
   obtain ⟨g1,h⟩:=Fn h;refine gs IT [0,1,2,3,4] p (Ah m0 (Ap (AW Tryz.f127) 0 [])) (AM 58 [(0,.yl C.l),(1,.ref 0 0),(3,.ref 2 0),(5,.msl 3 1 0 g.length),(6,.msl 4 1 1 (x6-1))]) (XG g start inn o3 o4) ?_;refine BW.le (BR.rootE 4 1 ⟨AM 58 [(0,.yl C.l),(1,.ref 0 0),(3,.ref 2 0),(5,.msl 3 1 0 g.length),(6,.msl 5 1 0 (x6-1))],[some (.cells [.sl 1 g.length (Aw A8 g)]),some (.cells [.i start]),some (.cells [.bools inn]),some (.bools o3),none,some (.ints (o4.drop 1))]⟩ [1<=o4.length] (by kernel_rfl) ⟨g1,trivial⟩) (by kernel_rfl) ?_;refine BW.le (BR.compE [0,1,2,3,5] (by kernel_rfl)) (by kernel_rfl) ?_;exact AF _ _ h m0 AB i hi hd
theorem ue (C:EH Tryz.prog GG) (n:Nat) (self:JV -> Option (List Int)) (g:List (List Int)) (start:Int) (inn:List Bool) (AF: ∀ pt r,self pt=some r -> Mz C n g start inn r pt) (o3:List Bool) (r:List Int) (h:Zc n self g start inn o3=some r):Mz C (n+1) g start inn r (.l3 o3):=by
 intro m0 AB;intro i hi hd;refine rd AB fun m0 AB=>?_
 unfold Zc at h;have p:=H0;cases h;exact TrI.e HC.x IT 10 p (by kernel_rfl) (.inl (by rw [dX hi hd]))
theorem Vd (C:EH Tryz.prog GG) (g:List (List Int)) (start:Int) (inn:List Bool): ∀ (n:Nat) (pt:JV) (r:List Int),ET g start inn n pt=some r -> Mz C n g start inn r pt
 | 0,_,_,h=>by cases h
 | n+1,.l1 x6 o3 o4,r,h=>ug C n (ET g start inn n) g start inn (Vd C g start inn n) x6 o3 o4 r h
 | n+1,.l2 x6 Bj CV BS o3 o4,r,h=>uf C n (ET g start inn n) g start inn (Vd C g start inn n) x6 Bj CV BS o3 o4 r h
 | n+1,.l3 o3,r,h=>ue C n (ET g start inn n) g start inn (Vd C g start inn n) o3 r h
theorem uj {n:Nat} (g:List (List Int)) (start:Int) (inn:List Bool) {r:List Int} (h:GC n g start inn=some r) (C:EH Tryz.prog GG) (hC:C.encs=r.map B7):A3 Tryz.prog GG Fence.wide none 3 (C.Y 3 0) (C.Q 3) [.code (AW Tryz.f127)] ⟨AM 58 [(0,.yl C.l),(1,.ref 0 0),(2,.ref 1 0),(3,.ref 2 0)],[some (.cells [.sl 1 g.length (Aw A8 g)]),some (.cells [.i start]),some (.cells [.bools inn])]⟩:=by
 suffices H: ∀ i:Nat,i<=C.encs.length -> C.encs.drop i=r.map B7 -> A3 Tryz.prog GG Fence.wide none 3 (C.Y 3 i) (C.Q 3) [.code (AW Tryz.f127)] ⟨AM 58 [(0,.yl C.l),(1,.ref 0 0),(2,.ref 1 0),(3,.ref 2 0)],[some (.cells [.sl 1 g.length (Aw A8 g)]),some (.cells [.i start]),some (.cells [.bools inn])]⟩ from H 0 (zE6 _) (by rw [zGG];exact hC)
 intro i hi hd;have AF:=Vd C g start inn n;unfold GC at h
 generalize ET g start inn n=self at h AF
 unfold Zd at h;obtain ⟨⟨g0,g1,g2⟩,h⟩:=Fn h;have p:=H0.g g0 |>.g g1 |>.g g2
 exact gg IT [0,1,2,3,4] p (en n (AF _ _ h n Nat.le.refl i hi hd))
theorem Zf {n:Nat} {g_:List (List Int)} {AI:List Bool} {start:Int} {r:List Int} (h:GC n g_ start AI=some r) (H:DH):EQ 114 [.sl 1 g_.length (Aw A8 g_),.bools AI,.i start] H (.it H.length) (H++[some (.iter (r.map B7))]) true:=by
 refine ES.iterN (c:=L1 [.ref 0 0,.ref 1 0,.ref 2 0]) (h0:=[some (.cells [.sl 1 g_.length (Aw A8 g_)]),some (.cells [.i start]),some (.cells [.bools AI])]) (fn:=Tryz.f127) (ul (n:=0) g_ AI start (r:=()) rfl) (by kernel_rfl) Tryz.func127 (by kernel_rfl) (by kernel_rfl) (by kernel_rfl) (fun C hC=>?_) H;have e:DV.yl C.l::(List.range 3).map (L1 [.ref 0 0,.ref 1 0,.ref 2 0])++List.replicate (Tryz.f127.ntmps-(3+1)) .any=AM 58 [(0,.yl C.l),(1,.ref 0 0),(2,.ref 1 0),(3,.ref 2 0)]:=by kernel_rfl
 rw [e];exact uj g_ start AI h C hC
end Go.Proofs.YtekkngkphejfcaaGreatDoor
