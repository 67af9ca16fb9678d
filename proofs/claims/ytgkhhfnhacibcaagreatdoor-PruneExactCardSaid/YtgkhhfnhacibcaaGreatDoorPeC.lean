/- Part 3 of 6 of what the proofs of these laws stand on. -/
import Derived.Test.YtgkhhfnhacibcaaGreatDoorPeB
import Derived.LoopIn
set_option linter.all false
namespace Go.Proofs.YtgkhhfnhacibcaaGreatDoor
open Go.RowKit
structure HX (F:Fence) (P:Program):Prop where
 f:Dg F P
 m:P.follows .mixedOrders=true
structure HS (c:List (DV×DH×Bool)) (o:List (Nat×DV)) (z:List (Nat×Fz)) (v:List Prop):Prop where
 all:Be v
section
variable {P:Program} {Γ:BB} {cs:List (DV×DH×Bool)} {os:List (Nat×DV)} {zs:List (Nat×Fz)} {vs:List Prop}
theorem H0:HS [] [] [] []:=⟨trivial⟩
theorem HS.add (q:HS cs os zs vs) {c':List (DV×DH×Bool)} {o':List (Nat×DV)} {z':List (Nat×Fz)} {p:Prop} (h:p):HS c' o' z' (vs++[p]):=⟨Cf.2 ⟨q.all,h,trivial⟩⟩
theorem HS.o (q:HS cs os zs vs) (t:Nat) {d d':DV} (x:AT d d'):HS cs (os++[(t,d')]) zs (vs++[AT d d']):=q.add x
theorem HS.b (q:HS cs os zs vs) (t:Nat) {a b:Bool} (x:a=b):HS cs (os++[(t,.bool b)]) zs (vs++[AT (.bool a) (.bool b)]):=q.add (AT.bool x)
theorem HS.w (q:HS cs os zs vs) (t:Nat) {x:Int} (h:AH x):HS cs (os++[(t,.int .i64 x)]) zs (vs++[AT (.int .i64 (IntKind.i64.wrap x)) (.int .i64 x)]):=q.add (iP h)
theorem HS.g (q:HS cs os zs vs) {p:Prop} (x:p):HS cs os zs (vs++[p]):=q.add x
theorem HS.t (q:HS cs os zs vs):HS cs os zs (vs++[True]):=q.add trivial
theorem HS.c (q:HS cs os zs vs) {f:Nat} {ds:List DV} {h:DH} {d:DV} {h':DH} {e:Bool} (x:ES P Γ f ds h d h' e):HS (cs++[(d,h',e)]) os zs (vs++[ES P Γ f ds h d h' e]):=q.add x
theorem HS.q (q:HS cs os zs vs) {f:Nat} {ds:List DV} {h:DH} {d:DV} {h':DH} {k:Nat} (x:M4 P Γ f ds h d h' k):HS (cs++[(d,h',false)]) os zs (vs++[M4 P Γ f ds h d h' k]):=q.add x
theorem HS.a (q:HS cs os zs vs) (t k m:Nat) {n n':Nat} {f f':Nat -> Nat -> DV} (x:n=n'/\ ∀ i j,i<n -> j<m -> AT (f i j) (f' i j)):HS cs os (zs++[(t,.arr k n' f')]) (vs++[n=n'/\ ∀ i j,i<n -> j<m -> AT (f i j) (f' i j)]):=q.add x
theorem HS.z (q:HS cs os zs vs) (t k:Nat):HS cs os (zs++[(t,.frz k)]) vs:=⟨q.all⟩
theorem HS.k (q:HS cs os zs vs) (t:Nat):HS cs os (zs++[(t,.rws)]) vs:=⟨q.all⟩
end
theorem ES.emC {P:Program} {Γ:BB} {f:Nat} {ds:List DV} {h:DH} {d:DV} {h':DH} {ext:Bool} (Eb:ES P Γ f ds h d h' ext) (σ:List Nat) (H:DH) (hb:LD σ H.length h.length h'.length=true) (hh:(σ.map fun k=>H.getD k none)=h.map (EA σ H.length)):ES P Γ f (ds.map (up σ H.length)) H (up σ H.length d) (Ee H σ h') ext:=
 Eb.embedB σ H hb hh rfl
theorem Fu {α:Type} [Inhabited α] (c:α -> List DV) (L:List α) (n m:Nat) (h: ∀ x,(c x).all Hp=true/\ m=(c x).length): ∀ i j,i<n -> j<m -> Hp (Am c L i j)=true:=fun i j _ hj=>n6 (h _).1 (h _).2 j hj
def frzL:List Nat -> St -> Option (St×List Prop)
 | [],S=>some (S,[])
 | k::ks,S=>match Qn k S with
  | some (S',vs)=>match frzL ks S' with
   | some (CV,BW)=>some (CV,vs++BW)
   | none=>none
  | none=>none
theorem BT.frzL {L:Nat}: ∀ (ks:List Nat) {S S':St} {vs:List Prop},Proofs.YtgkhhfnhacibcaaGreatDoor.frzL ks S=some (S',vs) -> Be vs -> BT L S S'
 | [],S,S',vs,h,_=>by cases h;exact BT.refl L S
 | k::ks,S,S',vs,h,hv=>by
  simp only [Proofs.YtgkhhfnhacibcaaGreatDoor.frzL] at h;split at h
  ·rename_i S1 Cb h1;split at h
   ·rename_i S2 E5 h2;cases h;obtain ⟨B5,B8⟩:=Cf.1 hv;exact (BT.frzE k S1 Cb h1 B5).trans (BT.frzL ks h2 B8)
   ·cases h
  ·cases h
abbrev Uw:=List Prop×List Prop×List (DV×DH×Bool)×List (Nat×DV)×Bool
def NR (σ:List Nat) (L:Nat) (w:List Prop) (r:KO×St×List Prop×Bt):Uw:=(r.2.2.1,w,r.2.2.2.calls,r.2.2.2.co,JK σ L r.2.1.h.length)
def Kg (live σ:List Nat) (L:Nat) (ks:List Nat) (r:KO×St×List Prop×Bt):Option (KO×List DV×DH×Uw):=match frzL ks (comp live σ r.2.1) with
 | some (S,w)=>some (r.1,S.fr,S.h,NR σ L w r)
 | none=>none
def cx:KO -> Option Exit
 | .ret=>some .ret
 | .at []=>some .normal
 | .at (.code (.exit i)::k)=>if (Hn i k).isNone then some (.exit i) else none
 | _=>none
def Ig (P:Program) (live σ:List Nat) (L:Nat) (ks:List Nat) (fn:Func) (d:DV) (l2:Nat) (r:KO×St×List Prop×Bt):Option (Bool×List DV×DH×Uw):=match frzL ks (comp live σ r.2.1) with
 | some (S,w)=>match NQ P S fn.results.toList with
  | some rs=>some ((match r.1 with | .ret=>true | .at []=>true | _=>false)&&(decide (S.h.length<=l2)||(S.h.all WS&&Gj d&&decide (L<=S.h.length))),rs,(if S.h.length<=l2 then S.h else (FI (List.range L) S).h),NR σ L w r)
  | none=>none
 | none=>none
def WF (σ:List Nat) (L:Nat) (r:KO×St×List Prop×Bt):Option Exit×DH×Uw:=(cx r.1,(comp [] σ r.2.1).h,NR σ L [] r)
section
variable {P:Program} {Γ:BB} {F:Fence} {B:Option Nat} {L:Nat} {Y N:Ba P Γ L} {Q:QY P Γ L} {k k':List KI} {S:St} {fr:List DV} {h' h2:DH} {c:List (DV×DH×Bool)} {o:List (Nat×DV)} {z:List (Nat×Fz)} {v w:List Prop}
theorem nu {live σ ks:List Nat} {r:KO×St×List Prop×Bt} {r1:KO} (h:Kg live σ L ks r=some (r1,fr,h',v,w,[],[],true)) (hw:Be w):r.1=r1/\ r.2.2.1=v/\ BT L r.2.1 ⟨fr,h'⟩:=by
 unfold Kg at h;split at h
 ·rename_i S1 w1 hf;simp only [NR,zM,zZ] at h;obtain ⟨rfl,rfl,rfl,rfl,rfl,_,_,hs⟩:=h;exact ⟨rfl,rfl,(BT.comp live σ r.2.1 hs).trans (BT.frzL ks hf hw)⟩
 ·cases h
theorem BV.gS (hX:HX F P) (A6:Bb) (n:Nat) (live σ:List Nat) (tg:List (List (Nat×Nat)×St)) (hl:HS c o z v) (ks:List Nat) (hz:HS [] [] [] w) (k':List KI) (fr:List DV) (h':DH)
 (h:(Bx P Γ A6 n k S ⟨c,o,z,tg⟩).bind (Kg live σ L ks)=some (.at k',fr,h',v,w,[],[],true)) (hc:Hs k'=true) (hk:Az P Γ F B L Y Q k' ⟨fr,h'⟩):Az P Γ F B L Y Q k S:=by
 cases hr:Bx P Γ A6 n k S ⟨c,o,z,tg⟩ with
 | none=>rw [hr] at h;cases h
 | some r=>
  obtain ⟨r1,S1,v1,o1⟩:=r;rw [hr] at h;obtain ⟨e1,e2,hs⟩:=nu (r:=(r1,S1,v1,o1)) h hz.all;have e1:r1= .at k':=e1;have e2:v1=v:=e2;subst e1 e2;exact Et hX.f hX.m n k S _ _ _ _ _ hr hl.all (BV.le hs hc hk)
theorem BV.el (hX:HX F P) {fn:Func} {d:DV} (A6:Bb) (n:Nat) (live σ:List Nat) (tg:List (List (Nat×Nat)×St)) (hl:HS c o z v) (ks:List Nat) (hz:HS [] [] [] w) (rs:List DV) (le:AT (IR rs) d)
 (h:(Bx P Γ A6 n k S ⟨c,o,z,tg⟩).bind (Ig P live σ L ks fn d h2.length)=some (true,rs,h2,v,w,[],[],true)):BV P Γ F B L N (Fg P fn L d h2) k S:=by
 cases hr:Bx P Γ A6 n k S ⟨c,o,z,tg⟩ with
 | none=>rw [hr] at h;cases h
 | some r=>
  obtain ⟨r1,S1,v1,o1⟩:=r;rw [hr] at h;have h:Ig P live σ L ks fn d h2.length (r1,S1,v1,o1)=some (true,rs,h2,v,w,[],[],true):=h;unfold Ig at h;split at h
  ·rename_i S2 w1 hf;split at h
   ·rename_i mI Tg;simp only [NR,zM,zZ,yD] at h;obtain ⟨⟨rY,hq⟩,rfl,hh,rfl,rfl,_,_,hs⟩:=h;have hS:BT L S1 S2:=(BT.comp live σ S1 hs).trans (BT.frzL ks hf hz.all)
    have fin: ∀ e,(e= .normal∨e= .ret) -> Fg P fn L d h2 e S1:=fun e he=>by
     refine Fg.le hS ⟨he,S2,BT.refl _ _,mI,Tg,?_⟩
     by_cases A3:S2.h.length<=h2.length
     ·rw [xw A3] at hh;exact .inl ⟨le,hh⟩
     ·rw [yK A3] at hh;simp only [A3,decide_false,zj,yD,yd] at hq;exact .inr ⟨cF hq.1.1,le,NW hq.1.2,hq.2,hh⟩
    refine Et hX.f hX.m n k S _ _ _ _ _ hr hl.all ?_;rcases r1 with (_ | ⟨_,_⟩) | _
    ·exact ⟨rfl,fin _ (.inl rfl)⟩
    ·cases rY
    ·exact ⟨rfl,fin _ (.inr rfl)⟩
   ·cases h
  ·cases h
theorem BV.e (hX:HX F P) {fn:Func} {d:DV} (A6:Bb) (n:Nat) (live σ:List Nat) (tg:List (List (Nat×Nat)×St)) (hl:HS c o z v) (ks:List Nat) (hz:HS [] [] [] w)
 (h:(Bx P Γ A6 n k S ⟨c,o,z,tg⟩).bind (fun r=>(Ig P live σ L ks fn d h2.length r).map fun q=>(q.1,IR q.2.1,q.2.2))=some (true,d,h2,v,w,[],[],true)):BV P Γ F B L N (Fg P fn L d h2) k S:=by
 cases hr:Bx P Γ A6 n k S ⟨c,o,z,tg⟩ with
 | none=>rw [hr] at h;cases h
 | some r=>
  rw [hr] at h;have h:(Ig P live σ L ks fn d h2.length r).map (fun q=>(q.1,IR q.2.1,q.2.2))=some (true,d,h2,v,w,[],[],true):=h;cases hq:Ig P live σ L ks fn d h2.length r with
  | none=>rw [hq] at h;cases h
  | some q=>
   obtain ⟨q1,rs,q3⟩:=q;rw [hq] at h;simp only [yj,zM,zZ] at h;obtain ⟨rfl,hd,rfl⟩:=h;exact BV.el hX A6 n live σ tg hl ks hz rs (AT.of_eq hd) (by rw [hr];exact hq)
theorem BV.r (hX:HX F P) {ex:List Exit} {i:Nat} {e:Exit} (A6:Bb) (n:Nat) (σ:List Nat) (tg:List (List (Nat×Nat)×St)) (hl:HS c o z v) (he:(Exit.normal::ex)[i]? =some e)
 (h:(Bx P Γ A6 n k S ⟨c,o,z,tg⟩).map (WF σ L)=some (some e,h2,v,[],[],[],true)):BV P Γ F B L N (Cg L ex i h2) k S:=by
 cases hr:Bx P Γ A6 n k S ⟨c,o,z,tg⟩ with
 | none=>rw [hr] at h;cases h
 | some r=>
  obtain ⟨r1,S1,v1,o1⟩:=r;rw [hr] at h;simp only [yj,WF,NR,zM,zZ] at h;obtain ⟨hk,hh,rfl,_,_,_,hs⟩:=h;have fin:stay N (Cg L ex i h2) e S1 N:=⟨rfl,he,_,BT.comp [] σ S1 hs,hh⟩;refine Et hX.f hX.m n k S _ _ _ _ _ hr hl.all ?_;unfold cx at hk;split at hk
  ·cases hk;exact fin
  ·cases hk;exact fin
  ·rename_i i' k';split at hk
   ·rename_i hp;cases hk;exact Tr.exit (OH fin k' (Option.isNone_iff_eq_none.1 hp))
   ·cases hk
  ·cases hk
theorem F9.g (hX:HX F P) {Q:Exit -> St -> Prop} {assign body:Code} (A6:Bb) (n:Nat) (live σ:List Nat) (hl:HS c o z v) (fr:List DV) (h':DH)
 (h:(Bx P Γ A6 n [.code assign] S ⟨c,o,z,[]⟩).map (Pi live σ L)=some (.at [],fr,h',v,[],[],true)) (hk: ∀ N2:Ba P Γ L,BV P Γ F B L N2 Q [.code body] ⟨fr,h'⟩):F9 P Γ F B L N Q assign body S:=
 F9.go hX.f hX.m A6 n _ live σ fr h' v h hl.all hk
end
section
variable {P:Program} {Γ:BB} {L:Nat} {k:List KI} {S:St} {c:List (DV×DH×Bool)} {o:List (Nat×DV)} {z:List (Nat×Fz)} {v:List Prop}
theorem TrI.e {C:CW P Γ} {Y:Ba P Γ L} (hX:HX Fence.wide P) (A6:Bb) (n:Nat) (hl:HS c o z v)
 (h:(Bx P Γ A6 n k S ⟨c,o,z,[]⟩).map (fun r=>((match r.1 with | .ret=>true | .at []=>true | _=>false),r.2.2.1))=some (true,v)) (hY:Y=C.Y L C.encs.length∨Y=C.X L):Az P Γ Fence.wide none L Y (C.Q L) k S:=by
 cases hr:Bx P Γ A6 n k S ⟨c,o,z,[]⟩ with
 | none=>rw [hr] at h;cases h
 | some r=>
  obtain ⟨r1,S1,Cb,o1⟩:=r;rw [hr] at h;simp only [yj,zM,zZ] at h;obtain ⟨h1,rfl⟩:=h;refine Et hX.f hX.m n k S _ _ _ _ _ hr hl.all ?_;rcases r1 with (_ | ⟨_,_⟩) | _
  ·exact ⟨.inl rfl,hY⟩
  ·cases h1
  ·exact ⟨.inr rfl,hY⟩
theorem Az.y {C:CW P Γ} {i:Nat} {Q:QY P Γ L} {K:List KI} {ops:Array Oper} (hX:HX Fence.wide P) (p:Nat) (live σ:List Nat) (hl:HS c o z v) {x:Array Value} (OD:List DV) (hT:DH) (OE:List DV) (hE:DH)
 (hK:Lm K=some (ops,Dw K)) (BD:Dl ops=true) (h:(LR P Γ ops p S ⟨c,o,z,[]⟩).map (WE live σ L)=some (x.toList,C.l,OD,hT,OE,hE,v,true)) (hx:C.encs[i]? =some x) (hc:Hs (Dw K)=true) (Xe:Az P Γ Fence.wide none L (C.Y L (i+1)) Q (Dw K) ⟨OD,hT⟩) (Xf:Az P Γ Fence.wide none L (C.X L) Q (Dw K) ⟨OE,hE⟩):Az P Γ Fence.wide none L (C.Y L i) Q K S:=
 Az.yieldAt hX.f hK BD p _ live σ OD hT OE hE v h hl.all hx hc Xe Xf
theorem Az.yE {C:CW P Γ} {i:Nat} {K:List KI} {ops:Array Oper} (hX:HX Fence.wide P) (p:Nat) (hl:HS c o z v) {x:Array Value} (hK:Lm K=some (ops,[])) (BD:Dl ops=true)
 (h:(LR P Γ ops p S ⟨c,o,z,[]⟩).map (fun r=>(r.1,r.2.1,r.2.2.2.2))=some (x.toList,C.l,v)) (hx:C.encs[i]? =some x) (hd:i+1=C.encs.length):Az P Γ Fence.wide none L (C.Y L i) (C.Q L) K S:=by
 unfold Lm at hK;split at hK
 ·cases hK;cases hr:LR P Γ ops p S ⟨c,o,z,[]⟩ with
  | none=>rw [hr] at h;cases h
  | some r=>
   obtain ⟨xs,l,ST,SF,Cb⟩:=r;rw [hr] at h;simp only [yj,zM,zZ] at h;obtain ⟨rfl,rfl,rfl⟩:=h;exact Tr.yield hX.f BD hr hl.all hx ⟨.inl rfl,.inl (by rw [hd])⟩ ⟨.inl rfl,.inr rfl⟩
 ·cases hK
end
section
variable {P:Program} {Γ:BB} {F:Fence} {B L:Nat} {Y:Ba P Γ L} {Q:QY P Γ L} {fr:List DV} {h:DH} {K:List KI} {a b:Code} {α σ:Type} {l:List α} {H:σ -> DH} {FR:α -> List DV}
theorem BV.rg (H6:F=Fence.wide∨∃ l,F=Fence.wide.inRound l) (ex:List Exit) (It:(ex.all fun e=>(Jy e).isSome)=true) (kk t:Nat) (ps:Array Tmp) (enc:α -> Array Value) (L':Nat) {f:α -> σ -> Option (σ×Nat)} {s0:σ} {rE:σ×Nat} (hf:EJ f l s0=some rE)
 (DR: ∀ (l B:Nat) (N:Ba P Γ L') (x:α) (s:σ) (r:σ×Nat),f x s=some r -> F9 P Γ (Fence.wide.inRound l) (some B) L' N (Cg L' ex r.2 (H r.1)) a b ⟨FR x,H s⟩)
 (hK:Ll K=some (.tmp t,ps,a,b,Dw K)) (hg:Ac fr (.tmp t)= .it kk) (hk:h[kk]? =some (some (.iter (l.map enc)))) (Dp: ∀ x,(enc x).size=ps.size) (hL:Nat.ble L L'=true) (F6:fr.all (GF L')=true) (h0:h.set kk none=H s0) (Dc:(fun x=>JL fr ps.toList (enc x).toList)=FR)
 (D4: ∀ e,(Exit.normal::ex)[rE.2]? =some e -> DT P Γ F (some B) L Q (Dw K) e ⟨fr,H rE.1⟩ Y):Az P Γ F (some B) L Y Q K ⟨fr,h⟩:=
 BV.rangeAt H6 ex It (.tmp t) ps a b (Dw K) enc l H FR f hf hK hg hk Dp L' hL F6 h0 Dc DR D4
theorem BV.rg0 (H6:F=Fence.wide∨∃ l,F=Fence.wide.inRound l) (kk t:Nat) (ps:Array Tmp) (enc:α -> Array Value) (L':Nat) {f:α -> σ -> Option σ} {s0 sE:σ} (hf:Bn f l s0=some sE)
 (DR: ∀ (l B:Nat) (N:Ba P Γ L') (x:α) (s r:σ),f x s=some r -> F9 P Γ (Fence.wide.inRound l) (some B) L' N (Cg L' [] 0 (H r)) a b ⟨FR x,H s⟩)
 (hK:Ll K=some (.tmp t,ps,a,b,Dw K)) (hg:Ac fr (.tmp t)= .it kk) (hk:h[kk]? =some (some (.iter (l.map enc)))) (Dp: ∀ x,(enc x).size=ps.size) (hL:Nat.ble L L'=true) (F6:fr.all (GF L')=true) (h0:h.set kk none=H s0) (Dc:(fun x=>JL fr ps.toList (enc x).toList)=FR)
 (D4:Az P Γ F (some B) L Y Q (Dw K) ⟨fr,H sE⟩):Az P Γ F (some B) L Y Q K ⟨fr,h⟩:=
 BV.rangeAt0 H6 (.tmp t) ps a b (Dw K) enc l H FR f hf hK hg hk Dp L' hL F6 h0 Dc DR D4
end
end Go.Proofs.YtgkhhfnhacibcaaGreatDoor
namespace Go.Proofs.YtgkhhfnhacibcaaGreatDoor
abbrev yG:=@decide_eq_true
abbrev ya:=@List.mem_cons_of_mem
abbrev zAz:=@List.mem_of_mem_erase
end Go.Proofs.YtgkhhfnhacibcaaGreatDoor
namespace Go.Proofs.YtgkhhfnhacibcaaGreatDoor
open Go.RowKit
abbrev LK:=Nat×Array MapEntry×Nat
theorem pV {i:Nat}:TG none i:=fun _ h=>by cases h
theorem pU {i j:Nat} {g:LK} (h:i≠j):TG (some (i,g)) j:=fun y e=>by cases e;exact h
def HD {R:Type} [DecidableEq R] (rem:KS) (a:Option R) (f:List Int -> Option R):Option R:=match rem with
 | []=>a
 | x::r=>match f x with
  | none=>none
  | some v=>if r.all (fun y=>decide (f y=some v)) then some v else none
theorem Sz {R:Type} [DecidableEq R] {rem:KS} {a:Option R} {f:List Int -> Option R} {r:R} (h:HD rem a f=some r):(rem= [] -> a=some r)/\ ∀ y∈rem,f y=some r:=by
 cases rem with
 | nil=>exact ⟨fun _=>h,fun y hy=>absurd hy zv⟩
 | cons x l=>
  refine ⟨fun e=>absurd e (List.cons_ne_nil x l),?_⟩;unfold HD at h;simp only at h;cases hx:f x with
  | none=>rw [hx] at h;cases h
  | some v=>
   rw [hx] at h;simp only at h;split at h
   ·rename_i hc;cases h;intro y hy;rcases yf.1 hy with rfl | hy
    ·exact hx
    ·exact zl (yJ.1 hc y hy)
   ·cases h
theorem b6 {R:Type} [DecidableEq R] {a:Option R} {f:List Int -> Option R}:HD [] a f=a:=rfl
theorem n7 {R:Type} [DecidableEq R] {rem:KS} {a:Option R} {f:List Int -> Option R} {r:R} (hn:rem≠[]) (h: ∀ y∈rem,f y=some r):HD rem a f=some r:=by
 cases rem with
 | nil=>exact absurd rfl hn
 | cons x l=>
  unfold HD;simp only [h x (by simp)];rw [xw];exact yJ.2 fun y hy=>yG (h y (by simp [hy]))
theorem ly {P:Program} {w:World} {r bm Hg c0 Aa:Nat} {seen:Array Nat} {es:Array MapEntry} (hr:w.heap[r]? =some (.mapIter (some bm) Hg seen c0)) (hb:w.heap[bm]? =some (.map es Aa)) (Kv: ∀ x∈es.toList,x.born<Hg) (rV:Hg<=c0) (ty:TypeId):
 ((leftOf es seen).size=0/\ (Instr.next (.pointer (some ⟨r,0,none⟩)) false ty).run P w= .ok (.tuple #[.bool false]) w)∨
 ∃ e∈(leftOf es seen).toList,∃ w1:World,(w1=w∨w1=w.drew)/\ (Instr.next (.pointer (some ⟨r,0,none⟩)) false ty).run P w= .ok (.tuple #[.bool true,e.key,e.val]) { w1 with heap:=w1.heap.setIfInBounds r (.mapIter (some bm) Hg (seen.push e.born) Aa) }:=by
 simp only [Instr.next,getObj,yT,Sem.run,hr,hb,Result.andThen,next_test_false seen es Hg c0 Kv rV,yt,z7];unfold leftOf;have DS: ∀ x∈(Array.filter (fun e=>!seen.contains e.born) es).toList,x.born<Hg:=fun x hx=>Kv x (by simp at hx ⊢;exact hx.1)
 generalize Array.filter (fun e=>!seen.contains e.born) es=L at DS ⊢
 have e1:L.filter (fun x=>decide (x.born<Hg))=L:=Array.filter_eq_self.2 (fun x hx=>by simpa using DS x (by simpa using hx))
 have e2:L.filter (fun x=>decide (x.born>=Hg))= #[]:=by
  rw [Array.filter_eq_empty_iff];intro x hx;have:=DS x (by simpa using hx);simp;omega
 simp only [e1,e2,Array.append_empty]
 by_cases h0:L.size=0
 ·left;have:L= #[]:=zAE h0;subst this;refine ⟨rfl,?_⟩;simp [choose,Sem.run,Question.forced]
 ·right;have Aw:L.isEmpty=false:=by simp [Array.isEmpty,h0]
  simp only [Aw,yt,z7,Array.empty_append,Array.size_map]
  have Tx: ∃ (j:Nat) (w1:World),j<L.size/\ (w1=w∨w1=w.drew)/\ (choose (Question.mapNext L.size)).run P w= .ok j w1:=by
   by_cases hf:L.size<=1
   ·exact ⟨0,w,by omega,.inl rfl,by simp [choose,Sem.run,Question.forced,hf]⟩
   ·exact ⟨_,w.drew,zAZ _ (by omega),.inr rfl,by
     simp only [choose,Sem.run,Question.forced,yd,hf,z7,Question.cut];rfl⟩
  obtain ⟨j,w1,hj,H4,Np⟩:=Tx;have Kt:w1.heap[r]? =some (.mapIter (some bm) Hg seen c0):=by rcases H4 with rfl | rfl <;> exact hr
  refine ⟨L[j],by simp,w1,H4,?_⟩;simp only [Np,Array.getElem?_map,yh hj,yj,yT,setObj,Sem.run,Kt,Result.andThen];rfl
section
variable {P:Program} {Γ:BB} {N:Nat -> Prop} {S:St} {ρ:List AN} {a:Act} {w:World} {F:Fence} {B:Option Nat} {L:Nat} {Y:Ba P Γ L} {Q:QY P Γ L}
theorem Ad.setMo (R:Ad P Γ N S ρ a w) {k:Nat} {x x':MX} {p:AN} (hk:S.h[k]? =some (some (.mo x))) (hp:ρ[k]? =some p) (hO:LN w p x') (hc: ∀ b,p.foot b -> C7 w b):
 Ad P Γ N ⟨S.fr,S.h.set k (some (.mo x'))⟩ ρ a w/\ BN S.h ρ w (S.h.set k (some (.mo x'))) ρ w:=
 ⟨⟨R.hr.write hk hp (AP.refl _ _) hc hO,R.fr.out (Bc.write trivial hk hp (AP.refl p.foot w))⟩,BN.write hk hp (AP.refl _ _)⟩
theorem Eh.relock {p:AN} {n:Nat} {ls:List (Option KS)} {vs:Array Value} (hS:Eh w p n ls none vs) {i:Nat} (hi:(ls.getD i none).isSome=true): ∃ g:LK,Eh w p n ls (some (i,g)) vs:=by
 obtain ⟨mb,g1,g2,g3,es,Aa,g4,_⟩:=hS.has i _ (OA hi);refine ⟨(mb,es,Aa),{ hS with has:=fun j l hl=>?_ }⟩
 by_cases e:j=i
 ·subst e;have:l=(ls.getD j none).getD []:=by have:=OA hi;rw [hl] at this;exact yH (yH this)
  subst this;exact ⟨mb,g1,g2,g3,es,Aa,g4,fun x hx _=>by cases hx;rfl⟩
 ·obtain ⟨b,k1,k2,k3,HO,c1,k4,_⟩:=hS.has j l hl;exact ⟨b,k1,k2,k3,HO,c1,k4,fun x hx hj=>by cases hx;exact absurd hj.symm e⟩
theorem Eh.unlock {p:AN} {n:Nat} {ls:List (Option KS)} {lk:Option (Nat×LK)} {vs:Array Value} (hS:Eh w p n ls lk vs):Eh w p n ls none vs:=
 { hS with has:=fun j l hl=>let ⟨b,k1,k2,k3,HO,c1,k4,_⟩:=hS.has j l hl;⟨b,k1,k2,k3,HO,c1,k4,fun x hx=>by cases hx⟩ }
theorem Tr.lock {c:Code} {j i n:Nat} {ls:List (Option KS)} (hk:S.h[j]? =some (some (.mo (.sets n ls none)))) (hi:(ls.getD i none).isSome=true) (H: ∀ g:LK,Tr P Γ F B L Y c ⟨S.fr,S.h.set j (some (.mo (.sets n ls (some (i,g)))))⟩ Q):Tr P Γ F B L Y c S Q:=fun N ρ a w R y m b=>by
 obtain ⟨p,hp,vs,hS⟩:=R.hr.obj j _ hk;obtain ⟨g,K2⟩:=hS.relock hi;obtain ⟨R',st⟩:=R.setMo hk hp (x':=.sets n ls (some (i,g))) ⟨vs,K2⟩ fun b hb=>hS.lies hb
 exact H g N ρ a w R' (Y.st y R.hr R'.hr st (D9.refl _ _)) m b
def dH:List KI -> Bool
 | .code _::_=>true
 | _=>false
theorem BV.lock {K:List KI} {fr:List DV} {h:DH} (j i n:Nat) {ls:List (Option KS)} (hk:h[j]? =some (some (.mo (.sets n ls none)))) (hi:(ls.getD i none).isSome=true) (hK:dH K=true) (h':LK -> DH) (he:h'=fun g=>h.set j (some (.mo (.sets n ls (some (i,g)))))) (H: ∀ g:LK,Az P Γ F B L Y Q K ⟨fr,h' g⟩):Az P Γ F B L Y Q K ⟨fr,h⟩:=by
 subst he;unfold dH at hK;split at hK
 ·exact Tr.lock (S:=⟨fr,h⟩) hk hi H
 ·cases hK
theorem oS (R:Ad P Γ N S ρ a w) {m j n n' i:Nat} {ls:List (Option KS)} {g:LK} {rem:KS} {EL:Option (List Int)} (hm:S.h[m]? =some (some (.mo (.mit n g.1 g.2.1 g.2.2 rem EL)))) (hj:S.h[j]? =some (some (.mo (.sets n' ls (some (i,g)))))) (hi:(ls.getD i none).isSome=true) {v:Value} (hv:AO (MS N S.h ρ) w (.it m) ρ v) (ty:TypeId):
 (rem= []/\ (Instr.next v false ty).run P w= .ok (.tuple #[.bool false]) w)∨∃ y∈rem,∃ (k u:Value) (w':World) (p:AN),(Instr.next v false ty).run P w= .ok (.tuple #[.bool true,k,u]) w'/\ ρ[m]? =some p/\ AP p.foot w w'/\ LN w' p (.mit n g.1 g.2.1 g.2.2 (rem.erase y) (some y))/\ ∀ b,p.foot b -> C7 w' b:=by
 obtain ⟨p,hp,rfl⟩:=hv;obtain ⟨p',BJ,h0,h1,h2,seen,h3,h4,h5⟩:=R.hr.obj m _ hm;have:p'=p:=yH (BJ.symm.trans hp);subst this;obtain ⟨q,hq,vs,hS⟩:=R.hr.obj j _ hj;obtain ⟨b,k1,k2,k3,HO,Uj,k4,k5⟩:=hS.has i _ (OA hi);have k5:=k5 _ rfl rfl;obtain ⟨mb,es,Aa⟩:=g
 have e3:mb=b/\ es=HO/\ Aa=Uj:=by
  have:(mb,es,Aa)=(b,HO,Uj):=k5;simpa using this
 obtain ⟨rfl,rfl,rfl⟩:=e3;simp only at h3 h4 h5;rw [h1];have Kv: ∀ x∈es.toList,x.born<Aa:=k4.born;rcases ly (P:=P) h3 k4.blk Kv (yS _) ty with ⟨e1,e2⟩ | ⟨e,he,w1,QR,e2⟩
 ·refine .inl ⟨?_,e2⟩;have:(leftOf es seen)= #[]:=zAE e1;rw [this] at h4;have:=h4.length_eq;simp at this;exact zT this.symm
 ·have uC:e.key∈rem.map BL:=h4.mem_iff.1 (zN.2 ⟨e,he,rfl⟩);obtain ⟨y,hy,dT⟩:=zN.1 uC;have uA:e∈es.toList:=by simp [leftOf] at he ⊢;exact he.1
  have rX:p'.blk<w.heap.size:=(xz.1 h3).1;have rB:w1.heap=w.heap:=by rcases QR with rfl | rfl <;> rfl
  have hU:AP p'.foot w { w1 with heap:=w1.heap.setIfInBounds p'.blk (.mapIter (some mb) Aa (seen.push e.born) Aa) }:=by
   rw [h2]
   have u1:AP (fun k=>k=p'.blk) w w1:=by
    rcases QR with rfl | rfl
    ·exact AP.refl _ _
    ·exact AP.ofExt (At.toDrew w)
   exact u1.trans (Og _)
  have HJ:({ w1 with heap:=w1.heap.setIfInBounds p'.blk (.mapIter (some mb) Aa (seen.push e.born) Aa) }:World).heap[p'.blk]? =some (.mapIter (some mb) Aa (seen.push e.born) Aa):=by
   show (w1.heap.setIfInBounds _ _)[_]? =_
   simp [rB,rX]
  refine .inr ⟨y,hy,e.key,e.val,_,p',e2,hp,hU,⟨fun x hx=>?_,h1,h2,seen.push e.born,HJ,?_,fun x hx=>?_⟩,fun b hb=>?_⟩
  ·rcases hx with hx | hx
   ·exact h0 x (.inl (zAz hx))
   ·have ex:y=x:=yH hx;subst ex;exact h0 y (.inl hy)
  ·have hl:leftOf es (seen.push e.born)=(leftOf es seen).filter fun x=>x.born != e.born:=by
    unfold leftOf;rw [Array.filter_filter]
    congr 1
    funext x
    simp only [Array.contains_push,Bool.not_or];rw [Bool.and_comm];simp [bne,Bool.beq_comm]
   have BD:((leftOf es seen).toList.map (·.born)).Nodup:=by
    have:((leftOf es seen).toList.map (·.born)).Sublist (es.toList.map (·.born)):=by
     unfold leftOf;rw [Array.toList_filter];exact List.filter_sublist.map _
    exact this.nodup k4.stamps
   have t6: ∀ (l:List MapEntry),(l.map (·.born)).Nodup -> e∈l -> (l.map (·.key)).Perm (e.key::((l.filter fun x=>x.born != e.born).map (·.key))):=by
    intro l
    induction l with
    | nil=>intro _ h;cases h
    | cons x l ih=>
     intro hn hx;rw [zd,zBB] at hn
     by_cases dU:x=e
     ·subst dU
      have:(l.filter fun y=>y.born != x.born)=l:=List.filter_eq_self.2 fun y hy=>by
       simp only [zc,ne_eq];exact fun hc=>hn.1 (by rw [←hc];exact zN.2 ⟨y,hy,rfl⟩)
      simp [this]
     ·have Qf:e∈l:=(yf.1 hx).resolve_left fun h=>dU h.symm
      have Aw:(x.born != e.born)=true:=by
       simp only [zc,ne_eq];exact fun hc=>hn.1 (by rw [hc];exact zN.2 ⟨e,Qf,rfl⟩)
      rw [List.filter_cons,xw Aw,zd,zd];exact ((ih hn.2 Qf).cons x.key).trans (List.Perm.swap e.key x.key _)
   have P1:=t6 _ BD he;rw [hl,Array.toList_filter];have P2:(rem.map BL).Perm (BL y::(rem.erase y).map BL):=(List.perm_cons_erase hy).map BL;have P3:=P1.symm.trans (h4.trans P2);rw [←dT] at P3;exact List.Perm.cons_inv P3
  ·have ex:y=x:=yH hx;subst ex;exact ⟨e,uA,dT.symm,by simp⟩
  ·rw [h2] at hb;exact ⟨_,rfl,(),by rw [show b=p'.blk from hb];exact HJ⟩
theorem Tr.next (hF:Dg F P) {id:Nat} {ops:Array Oper} (BD:Dl ops=true) {o:Oper} {rest:List Oper} (Tl:ops.toList=o::rest) {x:Operand} (ho:o.op= .next x false) (hw:KD ops S o=some true) {m j n n' i:Nat} {ls:List (Option KS)} {g:LK} {rem:KS} {EL:Option (List Int)} (hx:Ac S.fr x= .it m) (hm:S.h[m]? =some (some (.mo (.mit n g.1 g.2.1 g.2.2 rem EL)))) (hj:S.h[j]? =some (some (.mo (.sets n' ls (some (i,g)))))) (dy:m≠j) (hi:(ls.getD i none).isSome=true)
 (h0:rem= [] -> ∃ S' vs o0 o',Ec P Γ ops rest ⟨Dj S.fr o.dst (.tup 1 (L1 [.bool false])),(S.h.set j (some (.mo (.sets n' ls none)))).set m none⟩ o0=some (S',vs,o')/\ Be vs/\ Q .normal S' Y)
 (h1: ∀ y∈rem,∃ S' vs o0 o',Ec P Γ ops rest ⟨Dj S.fr o.dst (.tup 3 (L1 [.bool true])),S.h.set m (some (.mo (.mit n g.1 g.2.1 g.2.2 (rem.erase y) (some y))))⟩ o0=some (S',vs,o')/\ Be vs/\ Q .normal S' Y):Tr P Γ F B L Y (.region id ops false) S Q:=fun N ρ a w R y mk b=>by
 refine wpIn_region_list ?_;rw [Tl];have hd: ∀ c,o.op≠.defer c:=fun c e=>by rw [ho] at e;cases e
 have EY: ∀ o'∈rest,o'∈ops:=fun o' Ip=>by
  have:o'∈ops.toList:=by rw [Tl];exact ya _ Ip
  simpa using this
 have Cw: ∀ v,(a.put o.dst v).defers=a.defers:=fun v=>by cases ho:o.dst <;> simp [Act.put]
 have rx:=Bh R x;rw [hx] at rx;unfold wpListIn;rw [xw (JF R hw)];have It:execOp a.eval o=(do pure (.value (←Instr.next (a.eval x) false o.type))):=by unfold execOp;rw [ho]
 have AU:m<S.h.length:=(yI.1 hm).1;rcases oS R hm hj hi rx o.type with ⟨e1,e2⟩ | ⟨ky,tc,k,u,w',p,e2,hp,hU,hO,hC⟩
 ·obtain ⟨S',vs,o0,o',g1,g2,g3⟩:=h0 e1;obtain ⟨q,hq,ib,hS⟩:=R.hr.obj j _ hj;obtain ⟨R1,NF⟩:=R.setMo hj hq (x':=.sets n' ls none) ⟨ib,hS.unlock⟩ fun b hb=>hS.lies hb
  have R2:Ad P Γ N ⟨S.fr,(S.h.set j (some (.mo (.sets n' ls none)))).set m none⟩ ρ a w:=⟨R1.hr.kill m,R1.fr.out (Bc.kill m)⟩
  have R3:=Hh R2 o.dst (d:=.tup 1 (L1 [.bool false])) (v:=.tuple #[.bool false]) ⟨#[.bool false],rfl,rfl,fun jj Kx=>by
   have:jj=0:=by omega
   subst this;exact ⟨_,rfl,rfl⟩⟩
  refine J0 hF hd (G:=fun v w2=>v= .tuple #[.bool false]/\ w2=w) (BS.value (s:=Instr.next (a.eval x) false o.type) It e2 ⟨rfl,rfl⟩) fun v w2 ⟨hv,QQ⟩=>?_
  subst hv QQ;refine K4 hF BD rest EY R3 g1 g2 fun ρ' a' w3 R' st Dd=>?_
  exact Tr.done R y mk b g3 R' ((NF.trans (BN.kill m)).trans st.st) (fun k p _ hp=>st.pl k p hp) (Dd.trans (Cw _))
 ·obtain ⟨S',vs,o0,o',g1,g2,g3⟩:=h1 ky tc;have NF:=BN.write (h:=S.h) (o':=.mo (.mit n g.1 g.2.1 g.2.2 (rem.erase ky) (some ky))) hm hp hU;have R1:Ad P Γ N ⟨S.fr,S.h.set m (some (.mo (.mit n g.1 g.2.1 g.2.2 (rem.erase ky) (some ky))))⟩ ρ a w':=⟨R.hr.write hm hp hU hC hO,R.fr.out (Bc.write trivial hm hp hU)⟩
  have R3:=Hh R1 o.dst (d:=.tup 3 (L1 [.bool true])) (v:=.tuple #[.bool true,k,u]) ⟨#[.bool true,k,u],rfl,rfl,fun jj Kx=>by
   match jj,Kx with
   | 0,_=>exact ⟨_,rfl,rfl⟩
   | 1,_=>exact ⟨_,rfl,trivial⟩
   | 2,_=>exact ⟨_,rfl,trivial⟩⟩
  refine J0 hF hd (G:=fun v w2=>v= .tuple #[.bool true,k,u]/\ w2=w') (BS.value (s:=Instr.next (a.eval x) false o.type) It e2 ⟨rfl,rfl⟩) fun v w2 ⟨hv,QQ⟩=>?_
  subst hv QQ;refine K4 hF BD rest EY R3 g1 g2 fun ρ' a' w3 R' st Dd=>?_
  exact Tr.done R y mk b g3 R' (NF.trans st.st) (fun k p _ hp=>st.pl k p hp) (Dd.trans (Cw _))
def WL (ops:Array Oper):Operand:=match ops.toList with
 | o::_=>match o.op with
  | .next x _=>x
  | _=>.tmp 0
 | []=>.tmp 0
def S5 (ops:Array Oper):Option Tmp:=match ops.toList with
 | o::_=>o.dst
 | []=>none
def Lx (ops:Array Oper):List Oper:=ops.toList.tail
def WM (ops:Array Oper):Bool:=match ops.toList with
 | o::_=>match o.op with
  | .next _ false=>o.guard.isNone&&Dl ops
  | _=>false
 | []=>false
theorem oD {ops:Array Oper} (h:WM ops=true):Dl ops=true/\ ∃ o,ops.toList=o::Lx ops/\ o.op= .next (WL ops) false/\ o.guard=none/\ o.dst=S5 ops:=by
 unfold WM at h;unfold WL S5 Lx;split at h
 ·rename_i o rest Tl;rw [Tl];split at h
  ·rename_i x ho;simp only [yD,Option.isNone_iff_eq_none] at h;refine ⟨h.2,o,rfl,?_,h.1,rfl⟩;simp only [ho]
  ·cases h
 ·cases h
def Sx (live σ:List Nat) (L:Nat) (r:St×List Prop×Bt):List DV×DH×List Prop×Bool:=((comp live σ r.1).fr,(comp live σ r.1).h,r.2.1,JK σ L r.1.h.length)
theorem Az.nx (hX:HX F P) {K:List KI} {ops:Array Oper} {fr:List DV} {h:DH} (hK:Lm K=some (ops,Dw K)) (CG:WM ops=true) (m j i n:Nat) (ls:List (Option KS)) (g:LK) (rem:KS) (EL:Option (List Int)) (live σ:List Nat) (fL:List DV) (h0:DH) (σ1:List Nat) (UC:List Int -> List DV) (h1:List Int -> DH)
 (hx:Ac fr (WL ops)= .it m) (hm:h[m]? =some (some (.mo (.mit n g.1 g.2.1 g.2.2 rem EL)))) (hj:h[j]? =some (some (.mo (.sets n ls (some (i,g)))))) (dy:m≠j) (hi:(ls.getD i none).isSome=true) (hc:Hs (Dw K)=true)
 (c0:(Ec P Γ ops (Lx ops) ⟨Dj fr (S5 ops) (.tup 1 (L1 [.bool false])),(h.set j (some (.mo (.sets n ls none)))).set m none⟩ ⟨[],[],[],[]⟩).map (Sx live σ L)=some (fL,h0,[],true))
 (c1: ∀ y,(Ec P Γ ops (Lx ops) ⟨Dj fr (S5 ops) (.tup 3 (L1 [.bool true])),h.set m (some (.mo (.mit n g.1 g.2.1 g.2.2 (rem.erase y) (some y))))⟩ ⟨[],[],[],[]⟩).map (Sx live σ1 L)=some (UC y,h1 y,[],true))
 (k0:rem= [] -> Az P Γ F B L Y Q (Dw K) ⟨fL,h0⟩) (k1: ∀ y∈rem,Az P Γ F B L Y Q (Dw K) ⟨UC y,h1 y⟩):Az P Γ F B L Y Q K ⟨fr,h⟩:=by
 have go: ∀ {S:St} {live σ:List Nat} {Mh:List DV} {h':DH},(Ec P Γ ops (Lx ops) S ⟨[],[],[],[]⟩).map (Sx live σ L)=some (Mh,h',[],true) -> Az P Γ F B L Y Q (Dw K) ⟨Mh,h'⟩ -> ∃ S' vs o0 o',Ec P Γ ops (Lx ops) S o0=some (S',vs,o')/\ Be vs/\ Az P Γ F B L Y Q (Dw K) S':=by
  intro S live σ Mh h' Ma hk;cases hr:Ec P Γ ops (Lx ops) S ⟨[],[],[],[]⟩ with
  | none=>rw [hr] at Ma;cases Ma
  | some r=>
   obtain ⟨S1,v1,o1⟩:=r;rw [hr] at Ma;simp only [yj,Sx,zM,zZ] at Ma;obtain ⟨rfl,rfl,rfl,hs⟩:=Ma;exact ⟨S1,_,_,_,hr,trivial,BV.le (BT.comp live σ S1 hs) hc hk⟩
 unfold Lm at hK;split at hK
 ·rename_i id ny k';have e:=yH hK;simp only [Dw,zZ,and_true] at e;subst e;obtain ⟨BD,o,q1,q2,q3,q4⟩:=oD CG;exact Tr.next (S:=⟨fr,h⟩) hX.f BD q1 q2 (by unfold KD;rw [q3]) hx hm hj dy hi (fun e=>by rw [q4];exact go c0 (k0 e)) (fun y hy=>by rw [q4];exact go (c1 y) (k1 y hy))
 ·cases hK
end
end Go.Proofs.YtgkhhfnhacibcaaGreatDoor
namespace Go.Proofs.YtgkhhfnhacibcaaGreatDoor
abbrev yL:=@Nat.lt_succ_iff_lt_or_eq
abbrev y9:=@List.mem_cons_self
end Go.Proofs.YtgkhhfnhacibcaaGreatDoor
namespace Go.Proofs.YtgkhhfnhacibcaaGreatDoor
open Go.RowKit
def Ae {R:Type} (f:Nat -> Option R) (Q:R -> Prop):Prop:=∃ N,∀ n,N<=n -> ∃ r,f n=some r/\ Q r
def Ev {R:Type} (f:Nat -> Option R) (r:R):Prop:=∃ N,∀ n,N<=n -> f n=some r
section
variable {R T:Type} {f g:Nat -> Option R} {Q Q':R -> Prop} {r:R}
theorem Ev.p (h:Ev f r) (hq:Q r):Ae f Q:=let ⟨N,h⟩:=h;⟨N,fun n hn=>⟨r,h n hn,hq⟩⟩
theorem Ae.ev (h:Ae f Q) (hu: ∀ r r',Q r -> Q r' -> r=r'): ∃ r,Q r/\ Ev f r:=by
 obtain ⟨N,h⟩:=h;obtain ⟨r,h1,h2⟩:=h N (yS _);refine ⟨r,h2,N,fun n hn=>?_⟩;obtain ⟨r',h3,h4⟩:=h n hn;rw [h3,hu _ _ h4 h2]
theorem Ae.mono (h:Ae f Q) (hq: ∀ r,Q r -> Q' r):Ae f Q':=let ⟨N,h⟩:=h;⟨N,fun n hn=>let ⟨r,h1,h2⟩:=h n hn;⟨r,h1,hq r h2⟩⟩
theorem Ae.step (k:Nat) (h: ∀ n,f (n+k)=g n) (hg:Ae g Q):Ae f Q:=by
 obtain ⟨N,hg⟩:=hg;refine ⟨N+k,fun n hn=>?_⟩;have:=hg (n-k) (by omega);rw [←h,show n-k+k=n by omega] at this;exact this
theorem Ev.step (k:Nat) (h: ∀ n,f (n+k)=g n) (hg:Ev g r):Ev f r:=by
 obtain ⟨N,hg⟩:=hg;refine ⟨N+k,fun n hn=>?_⟩;have:=hg (n-k) (by omega)
 rwa [←h,show n-k+k=n by omega] at this
theorem Ev.now (h: ∀ n,f n=some r):Ev f r:=⟨0,fun n _=>h n⟩
theorem Ev.eq {f g:Nat -> Option R} (h:Ev g r) (e: ∀ n,f n=g n):Ev f r:=let ⟨N,h⟩:=h;⟨N,fun n hn=>(e n).trans (h n hn)⟩
theorem Ae.eq {f g:Nat -> Option R} (h:Ae g Q) (e: ∀ n,f n=g n):Ae f Q:=let ⟨N,h⟩:=h;⟨N,fun n hn=>by rw [e];exact h n hn⟩
theorem Ev.bind {a:Nat -> Option T} {x:T} {b:Nat -> T -> Option R} (ha:Ev a x) (hb:Ev (fun n=>b n x) r):Ev (fun n=>(a n).bind (b n)) r:=by
 obtain ⟨N,ha⟩:=ha;obtain ⟨M,hb⟩:=hb;refine ⟨max N M,fun n hn=>?_⟩
 show (a n).bind (b n)=_
 rw [ha n (by omega),yF];exact hb n (by omega)
theorem Ae.bind {a:Nat -> Option T} {x:T} {b:Nat -> T -> Option R} (ha:Ev a x) (hb:Ae (fun n=>b n x) Q):Ae (fun n=>(a n).bind (b n)) Q:=by
 obtain ⟨N,ha⟩:=ha;obtain ⟨M,hb⟩:=hb;refine ⟨max N M,fun n hn=>?_⟩
 show ∃ r,(a n).bind (b n)=some r/\ _
 rw [ha n (by omega),yF];exact hb n (by omega)
theorem Ae.all {l:List T} {F:T -> Nat -> Option R} (h: ∀ y∈l,Ae (F y) Q): ∃ N,∀ n,N<=n -> ∀ y∈l,∃ r,F y n=some r/\ Q r:=by
 induction l with
 | nil=>exact ⟨0,fun n _ y hy=>absurd hy zv⟩
 | cons x l ih=>
  obtain ⟨N,hN⟩:=ih fun y hy=>h y (ya _ hy)
  obtain ⟨M,hM⟩:=h x y9;refine ⟨max N M,fun n hn y hy=>?_⟩;rcases yf.1 hy with rfl | hy
  ·exact hM n (by omega)
  ·exact hN n (by omega) y hy
theorem Ae.range {F:Nat -> Nat -> Option R} {A:Nat -> R -> Prop}: ∀ (k:Nat),(∀ i,i<k -> Ae (F i) (A i)) -> ∃ N,∀ n,N<=n -> ∀ i,i<k -> ∃ r,F i n=some r/\ A i r
 | 0,_=>⟨0,fun n _ i hi=>absurd hi (yN i)⟩
 | k+1,h=>by
  obtain ⟨N,hN⟩:=Ae.range k fun i hi=>h i (by omega)
  obtain ⟨M,hM⟩:=h k (by omega);refine ⟨max N M,fun n hn i hi=>?_⟩;rcases yL.1 hi with hi | rfl
  ·exact hN n (by omega) i hi
  ·exact hM n (by omega)
theorem Ae.next [DecidableEq R] {rem:KS} {a:Nat -> Option R} {F:Nat -> List Int -> Option R} (hn:rem≠[]) (h: ∀ y∈rem,Ae (fun n=>F n y) Q) (hu: ∀ r r',Q r -> Q r' -> r=r'):Ae (fun n=>HD rem (a n) (F n)) Q:=by
 obtain ⟨N,hN⟩:=Ae.all h;refine ⟨N,fun n To=>?_⟩;obtain ⟨y0,q8⟩:=List.exists_mem_of_ne_nil rem hn;obtain ⟨r,h1,h2⟩:=hN n To y0 q8;refine ⟨r,n7 hn fun y hy=>?_,h2⟩;obtain ⟨r',h3,h4⟩:=hN n To y hy;rw [hu _ _ h2 h4];exact h3
end
end Go.Proofs.YtgkhhfnhacibcaaGreatDoor
namespace Go.Proofs.YtgkhhfnhacibcaaGreatDoor
open Go.RowKit
class HC (F:Fence):Prop where
 x:HX F Tryz.prog
 w:F=Fence.wide∨∃ l,F=Fence.wide.inRound l
instance:HC Fence.wide:=⟨⟨Dg.wide,by kernel_rfl⟩,.inl rfl⟩
instance (l:Nat):HC (Fence.wide.inRound l):=⟨⟨Dg.round l,by kernel_rfl⟩,.inr ⟨l,rfl⟩⟩
abbrev DV.i (x:Int):DV:=.int .i64 x
def AE:Bb:=fun _=>.no
def HE:Nat -> List DV -> List Nat
 | _,[]=>[]
 | i,.any::r=>HE (i+1) r
 | i,_::r=>i::HE (i+1) r
section
variable {F:Fence} {B:Option Nat} {L:Nat} {Y N:Ba Tryz.prog GG L} {Q:QY Tryz.prog GG L} {k k':List KI} {S:St} {fr:List DV} {h' h2:DH} {c:List (DV×DH×Bool)} {o:List (Nat×DV)} {z:List (Nat×Fz)} {v w:List Prop}
theorem gz [hX:HC F] (A6:Bb) (σ:List Nat) (hl:HS c o z v) (ks:List Nat) (hz:HS [] [] [] w) (k':List KI) (fr:List DV) (h':DH) (hk:Az Tryz.prog GG F B L Y Q k' ⟨fr,h'⟩) (tg:List (List (Nat×Nat)×St):=[])
 (h:(Bx Tryz.prog GG A6 400 k S ⟨c,o,z,tg⟩).bind (Kg (HE 0 fr) σ L ks)=some (.at k',fr,h',v,w,[],[],true):=by kernel_rfl) (hc:Hs k'=true:=by kernel_rfl):Az Tryz.prog GG F B L Y Q k S:=
 BV.gS hX.x A6 400 (HE 0 fr) σ tg hl ks hz k' fr h' h hc hk
theorem gs [hX:HC F] (A6:Bb) (σ:List Nat) (hl:HS c o z v) (k':List KI) (fr:List DV) (h':DH) (hk:Az Tryz.prog GG F B L Y Q k' ⟨fr,h'⟩) (tg:List (List (Nat×Nat)×St):=[])
 (h:(Bx Tryz.prog GG A6 400 k S ⟨c,o,z,tg⟩).bind (Kg (HE 0 fr) σ L [])=some (.at k',fr,h',v,[],[],[],true):=by kernel_rfl) (hc:Hs k'=true:=by kernel_rfl):Az Tryz.prog GG F B L Y Q k S:=
 BV.gS hX.x A6 400 (HE 0 fr) σ tg hl [] H0 k' fr h' h hc hk
theorem gg [hX:HC F] (A6:Bb) (σ:List Nat) (hl:HS c o z v) (hk:Az Tryz.prog GG F B L Y Q k' ⟨fr,h'⟩) (tg:List (List (Nat×Nat)×St):=[])
 (h:(Bx Tryz.prog GG A6 400 k S ⟨c,o,z,tg⟩).bind (Kg (HE 0 fr) σ L [])=some (.at k',fr,h',v,[],[],[],true):=by kernel_rfl) (hc:Hs k'=true:=by kernel_rfl):Az Tryz.prog GG F B L Y Q k S:=
 BV.gS hX.x A6 400 (HE 0 fr) σ tg hl [] H0 k' fr h' h hc hk
theorem el [hX:HC F] {fn:Func} {d:DV} (A6:Bb) (live σ:List Nat) (hl:HS c o z v) (ks:List Nat) (hz:HS [] [] [] w) (rs:List DV) (le:AT (IR rs) d) (tg:List (List (Nat×Nat)×St):=[])
 (h:(Bx Tryz.prog GG A6 400 k S ⟨c,o,z,tg⟩).bind (Ig Tryz.prog live σ L ks fn d h2.length)=some (true,rs,h2,v,w,[],[],true):=by kernel_rfl):BV Tryz.prog GG F B L N (Fg Tryz.prog fn L d h2) k S:=
 BV.el hX.x A6 400 live σ tg hl ks hz rs le h
theorem ez [hX:HC F] {fn:Func} {d:DV} (A6:Bb) (live σ:List Nat) (hl:HS c o z v) (ks:List Nat) (hz:HS [] [] [] w) (tg:List (List (Nat×Nat)×St):=[])
 (h:(Bx Tryz.prog GG A6 400 k S ⟨c,o,z,tg⟩).bind (fun r=>(Ig Tryz.prog live σ L ks fn d h2.length r).map fun q=>(q.1,IR q.2.1,q.2.2))=some (true,d,h2,v,w,[],[],true):=by kernel_rfl):BV Tryz.prog GG F B L N (Fg Tryz.prog fn L d h2) k S:=
 BV.e hX.x A6 400 live σ tg hl ks hz h
theorem ee [hX:HC F] {fn:Func} {d:DV} (A6:Bb) (live σ:List Nat) (hl:HS c o z v) (tg:List (List (Nat×Nat)×St):=[])
 (h:(Bx Tryz.prog GG A6 400 k S ⟨c,o,z,tg⟩).bind (fun r=>(Ig Tryz.prog live σ L [] fn d h2.length r).map fun q=>(q.1,IR q.2.1,q.2.2))=some (true,d,h2,v,[],[],[],true):=by kernel_rfl):BV Tryz.prog GG F B L N (Fg Tryz.prog fn L d h2) k S:=
 BV.e hX.x A6 400 live σ tg hl [] H0 h
theorem rr [hX:HC F] {ex:List Exit} {i:Nat} {e:Exit} (A6:Bb) (σ:List Nat) (he:(Exit.normal::ex)[i]? =some e) (hl:HS c o z v) (tg:List (List (Nat×Nat)×St):=[])
 (h:(Bx Tryz.prog GG A6 400 k S ⟨c,o,z,tg⟩).map (WF σ L)=some (some e,h2,v,[],[],[],true):=by kernel_rfl):BV Tryz.prog GG F B L N (Cg L ex i h2) k S:=
 BV.r hX.x A6 400 σ tg hl he h
theorem ag [hX:HC F] {Q:Exit -> St -> Prop} {assign body:Code} (A6:Bb) (σ:List Nat) (hl:HS c o z v) (fr:List DV) (h':DH) (hk: ∀ N2:Ba Tryz.prog GG L,BV Tryz.prog GG F B L N2 Q [.code body] ⟨fr,h'⟩)
 (h:(Bx Tryz.prog GG A6 400 [.code assign] S ⟨c,o,z,[]⟩).map (Pi (HE 0 fr) σ L)=some (.at [],fr,h',v,[],[],true):=by kernel_rfl):F9 Tryz.prog GG F B L N Q assign body S:=
 F9.g hX.x A6 400 (HE 0 fr) σ hl fr h' h hk
theorem rd {n m:Nat} (hm:n+1<=m) (h: ∀ m,n<=m -> Az Tryz.prog GG F B L Y Q (ZQ m k) S) (hk:MB k=true:=by kernel_rfl):Az Tryz.prog GG F B L Y Q (A2 m k) S:=BV.round hm hk h
theorem en (m:Nat) (h:Az Tryz.prog GG F B L Y Q (A2 m k) S) (hk:MB k=true:=by kernel_rfl):Az Tryz.prog GG F B L Y Q k S:=BV.enter m hk h
end
theorem eu {f:Nat} {ds:List DV} {h:DH} {d:DV} {h':DH} {ext:Bool} (Eb:ES Tryz.prog GG f ds h d h' ext) (σ:List Nat) (H:DH) (k:Nat) (hb:LD σ H.length h.length h'.length=true:=by kernel_rfl) (hk:σ.all (fun j=>Nat.ble k j)=true:=by kernel_rfl) (hh:(σ.map fun k=>H.getD k none)=h.map (EA σ H.length):=by kernel_rfl):M4 Tryz.prog GG f (ds.map (up σ H.length)) H (up σ H.length d) (Ee H σ h') k:=Eb.embedU σ H k hb hk hh
theorem em {f:Nat} {ds:List DV} {h:DH} {d:DV} {h':DH} {ext:Bool} (Eb:ES Tryz.prog GG f ds h d h' ext) (σ:List Nat) (H:DH) (hb:LD σ H.length h.length h'.length=true:=by kernel_rfl) (hh:(σ.map fun k=>H.getD k none)=h.map (EA σ H.length):=by kernel_rfl):ES Tryz.prog GG f (ds.map (up σ H.length)) H (up σ H.length d) (Ee H σ h') ext:=ES.emC Eb σ H hb hh
theorem fb {f:Nat} {ds:List DV} {d:DV} (h0:ES Tryz.prog GG f ds [] d [] true) (h:DH) (FH:ds.all Gj=true:=by kernel_rfl):ES Tryz.prog GG f ds h d h true:=ES.frameB h0 h FH
theorem sb {f:Nat} (ds:List DV) {Df:List DV} {d:DV} (h0:ES Tryz.prog GG f Df [] d [] true) (h:DH) (hs:LJ h ds Df) (hd:R9 d=true:=by kernel_rfl):ES Tryz.prog GG f ds h d h true:=ES.snapB h0 h hs hd
theorem ot {f:Nat} {fn:Func} {ds:List DV} {h:DH} {d:DV} {h':DH} {ext:Bool} (hf:Tryz.prog.funcs[f]? =some fn) (H: ∀ (B:Nat) (N:Ba Tryz.prog GG h.length),BV Tryz.prog GG Fence.wide (some B) h.length N (Fg Tryz.prog fn h.length d h') (start fn) ⟨ds++List.replicate (fn.ntmps-ds.length) .any,h⟩)
 (hb:fn.body.isSome=true:=by kernel_rfl) (Jq:(fn.name== "runtime.NumGoroutine")=false:=by kernel_rfl) (QX:h'.all WS=true:=by kernel_rfl) (Is:(!ext||h.isEmpty)=true:=by kernel_rfl):ES Tryz.prog GG f ds h d h' ext:=
 ES.of_trk hf hb Jq (cF QX) (fun e=>by subst e;simpa using Is) H
section
variable {F:Fence} {B L:Nat} {Y:Ba Tryz.prog GG L} {Q:QY Tryz.prog GG L} {fr:List DV} {h:DH} {K:List KI} {a b:Code} {α σ:Type} {l:List α} {H:σ -> DH} {FR:α -> List DV}
theorem rx [hX:HC F] (ex:List Exit) (kk t:Nat) (ps:Array Tmp) (enc:α -> Array Value) (L':Nat) {f:α -> σ -> Option (σ×Nat)} {s0:σ} {rE:σ×Nat} (hf:EJ f l s0=some rE)
 (DR: ∀ (l B:Nat) (N:Ba Tryz.prog GG L') (x:α) (s:σ) (r:σ×Nat),f x s=some r -> F9 Tryz.prog GG (Fence.wide.inRound l) (some B) L' N (Cg L' ex r.2 (H r.1)) a b ⟨FR x,H s⟩)
 (D4: ∀ e,(Exit.normal::ex)[rE.2]? =some e -> DT Tryz.prog GG F (some B) L Q (Dw K) e ⟨fr,H rE.1⟩ Y) (It:(ex.all fun e=>(Jy e).isSome)=true:=by kernel_rfl)
 (hK:Ll K=some (.tmp t,ps,a,b,Dw K):=by kernel_rfl) (hg:Ac fr (.tmp t)= .it kk:=by kernel_rfl) (hk:h[kk]? =some (some (.iter (l.map enc))):=by kernel_rfl) (Dp: ∀ x,(enc x).size=ps.size:=by exact fun _=>rfl) (hL:Nat.ble L L'=true:=by kernel_rfl) (F6:fr.all (GF L')=true:=by kernel_rfl) (h0:h.set kk none=H s0:=by kernel_rfl) (Dc:(fun x=>JL fr ps.toList (enc x).toList)=FR:=by kernel_rfl):Az Tryz.prog GG F (some B) L Y Q K ⟨fr,h⟩:=
 BV.rg hX.w ex It kk t ps enc L' hf DR hK hg hk Dp hL F6 h0 Dc D4
theorem r0 [hX:HC F] (kk t:Nat) (ps:Array Tmp) (enc:α -> Array Value) (L':Nat) {f:α -> σ -> Option σ} {s0 sE:σ} (hf:Bn f l s0=some sE)
 (DR: ∀ (l B:Nat) (N:Ba Tryz.prog GG L') (x:α) (s r:σ),f x s=some r -> F9 Tryz.prog GG (Fence.wide.inRound l) (some B) L' N (Cg L' [] 0 (H r)) a b ⟨FR x,H s⟩)
 (D4:Az Tryz.prog GG F (some B) L Y Q (Dw K) ⟨fr,H sE⟩)
 (hK:Ll K=some (.tmp t,ps,a,b,Dw K):=by kernel_rfl) (hg:Ac fr (.tmp t)= .it kk:=by kernel_rfl) (hk:h[kk]? =some (some (.iter (l.map enc))):=by kernel_rfl) (Dp: ∀ x,(enc x).size=ps.size:=by exact fun _=>rfl) (hL:Nat.ble L L'=true:=by kernel_rfl) (F6:fr.all (GF L')=true:=by kernel_rfl) (h0:h.set kk none=H s0:=by kernel_rfl) (Dc:(fun x=>JL fr ps.toList (enc x).toList)=FR:=by kernel_rfl):Az Tryz.prog GG F (some B) L Y Q K ⟨fr,h⟩:=
 BV.rg0 hX.w kk t ps enc L' hf DR hK hg hk Dp hL F6 h0 Dc D4
end
abbrev Yd (L:Nat):=Ba Tryz.prog GG L
abbrev EQ:=ES Tryz.prog GG
abbrev FQ:=Fg Tryz.prog
abbrev TW (B:Nat) {L:Nat} (N:Yd L) (Q:Exit -> St -> Prop) (k:List KI) (S:St):Prop:=BV Tryz.prog GG Fence.wide (some B) L N Q k S
abbrev TA (l B:Nat) {L:Nat} (N:Yd L) (Q:Exit -> St -> Prop) (fn:Func) (t:Nat) (S:St):Prop:=F9 Tryz.prog GG (Fence.wide.inRound l) (some B) L N Q (mi fn t) (SQ fn t) S
abbrev Al {X R:Type} (m:Nat -> X -> Option R) (T:Nat -> R -> X -> Prop):Prop:=∀ n x r,m n x=some r -> T n r x
theorem ia {X R:Type} {m:Nat -> X -> Option R} {T:Nat -> R -> X -> Prop} (h0: ∀ x,m 0 x=none) (h: ∀ n,(∀ x r,m n x=some r -> T n r x) -> ∀ x r,m (n+1) x=some r -> T (n+1) r x):Al m T
 | 0,x,_,e=>by rw [h0 x] at e;cases e
 | n+1,x,r,e=>h n (ia h0 h n) x r e
/-A proof in ZT shape of iZ was read off:iZ holds of each way on,ZT hints gathered so GQ. -/
def Gt {R:Type} (T:R -> Prop) (c:List (DV×DH×Bool)) (o:List (Nat×DV)) (z:List (Nat×Fz)) (v:List Prop) (A:Option R):Prop:=HS c o z v -> ∀ r,A=some r -> T r
section
variable {R R':Type} {T:R -> Prop} {c:List (DV×DH×Bool)} {o:List (Nat×DV)} {z:List (Nat×Fz)} {v:List Prop} {A A':Option R} {r0:R} {b b':Bool} {p q:Prop} {f:Nat} {ds:List DV} {h h':DH} {d d':DV} {e:Bool} {xi:Int}
theorem gO {F:Fence} {B:Option Nat} {L:Nat} {Y:Yd L} {Q:R -> QY Tryz.prog GG L} {k:List KI} {S:St} (t:Gt (fun r=>Az Tryz.prog GG F B L Y (Q r) k S) [] [] [] [] A): ∀ r,A=some r -> Az Tryz.prog GG F B L Y (Q r) k S:=t H0
theorem rO (t:Gt T [] [] [] [] A):Gt T c o z v A:=fun _=>t H0
theorem nO:Gt T c o z v none:=fun _ _ h=>by cases h
theorem lF (x:HS c o z v -> T r0):Gt T c o z v (some r0):=fun p _ h=>yH h▸x p
theorem bn (x:b=true -> Gt T c o z v A) (y:b=false -> Gt T c o z v A'):Gt T c o z v (bif b then A else A'):=fun p r h=>(E1 h).elim (fun h=>x h.1 p r h.2) (fun h=>y h.1 p r h.2)
theorem bj (t:Nat) (x:b=true -> Gt T c (o++[(t,.bool true)]) z (v++[AT (.bool b) (.bool true)]) A) (y:b=false -> Gt T c (o++[(t,.bool false)]) z (v++[AT (.bool b) (.bool false)]) A'):Gt T c o z v (bif b then A else A'):=bn (fun h p=>x h (p.b t h)) (fun h p=>y h (p.b t h))
theorem bi (t:Nat) (x:Gt T c (o++[(t,.bool true)]) z (v++[AT (.bool b) (.bool true)]) A) (y:Gt T c (o++[(t,.bool false)]) z (v++[AT (.bool b) (.bool false)]) A'):Gt T c o z v (bif b then A else A'):=bj t (fun _=>x) (fun _=>y)
theorem gn {_:Decidable p} (x:p -> Gt T c o z v A):Gt T c o z v (if p then A else none):=fun w r h=>x (Cx h).1 w r (Cx h).2
theorem gi {_:Decidable p} (x:Gt T c o z (v++[p]) A):Gt T c o z v (if p then A else none):=gn fun g w=>x (w.g g)
theorem gc {_:Decidable p} {_:Decidable q} (x:Gt T c o z v (if p then (if q then A else none) else none)):Gt T c o z v (if p/\ q then A else none):=fun w r h=>x w r (by obtain ⟨⟨hp,hq⟩,h⟩:=Cx h;rw [xw hp,xw hq];exact h)
theorem gw {_:Decidable (AH xi)} (t:Nat) (x:Gt T c (o++[(t,.int .i64 xi)]) z (v++[AT (.int .i64 (IntKind.i64.wrap xi)) (.int .i64 xi)]) A):Gt T c o z v (if AH xi then A else none):=gn fun g w=>x (w.w t g)
theorem cn {F:Option R'} {A:R' -> Option R} (x: ∀ y,F=some y -> Gt T c o z v (A y)):Gt T c o z v (F.bind A):=fun w r h=>let ⟨y,hy,h⟩:=Yf h;x y hy w r h
theorem cf {F:Option R'} {A:R' -> Option R} {d:R' -> DV} (k: ∀ {y},F=some y -> ES Tryz.prog GG f ds [] (d y) [] true) (h:DH) (x: ∀ y,Gt T (c++[(d y,h,true)]) o z (v++[ES Tryz.prog GG f ds h (d y) h true]) (A y)) (FH:ds.all Gj=true:=by kernel_rfl):Gt T c o z v (F.bind A):=cn fun y hy w=>x y (w.c (fb (k hy) h FH))
theorem ce {F:Option R'} {A:R' -> Option R} {d:R' -> DV} {h':R' -> DH} (k: ∀ {y},F=some y -> ES Tryz.prog GG f ds h (d y) (h' y) e) (σ:List Nat) (H:DH) (x: ∀ y,Gt T (c++[(up σ H.length (d y),Ee H σ (h' y),e)]) o z (v++[ES Tryz.prog GG f (ds.map (up σ H.length)) H (up σ H.length (d y)) (Ee H σ (h' y)) e]) (A y)) (hb: ∀ y,LD σ H.length h.length (h' y).length=true:=by intro;kernel_rfl) (hh:(σ.map fun k=>H.getD k none)=h.map (EA σ H.length):=by kernel_rfl):Gt T c o z v (F.bind A):=cn fun y hy w=>x y (w.c (em (k hy) σ H (hb y) hh))
theorem jb (t:Nat) (g:b=b') (x:Gt T c (o++[(t,.bool b')]) z (v++[AT (.bool b) (.bool b')]) A):Gt T c o z v A:=fun w=>x (w.b t g)
theorem jw (t:Nat) (g:AH xi) (x:Gt T c (o++[(t,.int .i64 xi)]) z (v++[AT (.int .i64 (IntKind.i64.wrap xi)) (.int .i64 xi)]) A):Gt T c o z v A:=fun w=>x (w.w t g)
theorem jg (g:p) (x:Gt T c o z (v++[p]) A):Gt T c o z v A:=fun w=>x (w.g g)
theorem jt (x:Gt T c o z (v++[True]) A):Gt T c o z v A:=fun w=>x w.t
theorem jo (t:Nat) (g:AT d d') (x:Gt T c (o++[(t,d')]) z (v++[AT d d']) A):Gt T c o z v A:=fun w=>x (w.o t g)
theorem jc (g:ES Tryz.prog GG f ds h d h' e) (x:Gt T (c++[(d,h',e)]) o z (v++[ES Tryz.prog GG f ds h d h' e]) A):Gt T c o z v A:=fun w=>x (w.c g)
theorem jq {k:Nat} (g:M4 Tryz.prog GG f ds h d h' k) (x:Gt T (c++[(d,h',false)]) o z (v++[M4 Tryz.prog GG f ds h d h' k]) A):Gt T c o z v A:=fun w=>x (w.q g)
theorem ja (t k m:Nat) {n n':Nat} {f f':Nat -> Nat -> DV} (g:n=n'/\ ∀ i j,i<n -> j<m -> AT (f i j) (f' i j)) (x:Gt T c o (z++[(t,.arr k n' f')]) (v++[n=n'/\ ∀ i j,i<n -> j<m -> AT (f i j) (f' i j)]) A):Gt T c o z v A:=fun w=>x (w.a t k m g)
theorem jz (t k:Nat) (x:Gt T c o (z++[(t,.frz k)]) v A):Gt T c o z v A:=fun w=>x (w.z t k)
theorem jk (t:Nat) (x:Gt T c o (z++[(t,.rws)]) v A):Gt T c o z v A:=fun w=>x (w.k t)
end
section
variable {R:Type} {c:List (DV×DH×Bool)} {o:List (Nat×DV)} {z:List (Nat×Fz)} {v:List Prop} {A:Option R} {r0:R} {F:Fence} {B:Option Nat} {L:Nat} {Y N:Ba Tryz.prog GG L} {k k':List KI} {S:St} {fr:List DV} {h':DH}
theorem lG [hX:HC F] (A6:Bb) (σ:List Nat) {Q:R -> QY Tryz.prog GG L} (hk: ∀ {r},A=some r -> Az Tryz.prog GG F B L Y (Q r) k' ⟨fr,h'⟩) (tg:List (List (Nat×Nat)×St):=[])
 (h:(Bx Tryz.prog GG A6 400 k S ⟨c,o,z,tg⟩).bind (Kg (HE 0 fr) σ L [])=some (.at k',fr,h',v,[],[],[],true):=by kernel_rfl) (hc:Hs k'=true:=by kernel_rfl):Gt (fun r=>Az Tryz.prog GG F B L Y (Q r) k S) c o z v A:=
 fun p _ e=>gg A6 σ p (hk e) tg h hc
theorem lN [hX:HC F] {m:Nat} (A6:Bb) (σ:List Nat) {Q:R -> QY Tryz.prog GG L} (hk: ∀ {r},A=some r -> Az Tryz.prog GG F B L Y (Q r) (A2 m k') ⟨fr,h'⟩) (tg:List (List (Nat×Nat)×St):=[])
 (h:(Bx Tryz.prog GG A6 400 k S ⟨c,o,z,tg⟩).bind (Kg (HE 0 fr) σ L [])=some (.at k',fr,h',v,[],[],[],true):=by kernel_rfl) (hc:Hs k'=true:=by kernel_rfl) (hm:MB k'=true:=by kernel_rfl):Gt (fun r=>Az Tryz.prog GG F B L Y (Q r) k S) c o z v A:=
 lG A6 σ (fun e=>en m (hk e) hm) tg h hc
theorem lE [hX:HC F] {fn:Func} {D:R -> DV} {E:R -> DH} (A6:Bb) (live σ:List Nat) (tg:List (List (Nat×Nat)×St):=[])
 (h:(Bx Tryz.prog GG A6 400 k S ⟨c,o,z,tg⟩).bind (fun r=>(Ig Tryz.prog live σ L [] fn (D r0) (E r0).length r).map fun q=>(q.1,IR q.2.1,q.2.2))=some (true,D r0,E r0,v,[],[],[],true):=by kernel_rfl):Gt (fun r=>BV Tryz.prog GG F B L N (Fg Tryz.prog fn L (D r) (E r)) k S) c o z v (some r0):=
 lF fun p=>ee A6 live σ p tg h
end
end Go.Proofs.YtgkhhfnhacibcaaGreatDoor
namespace Go.Proofs.YtgkhhfnhacibcaaGreatDoor
abbrev zA:=@Nat.le_of_succ_le
end Go.Proofs.YtgkhhfnhacibcaaGreatDoor
namespace Go.Proofs.YtgkhhfnhacibcaaGreatDoor
open Go.RowKit
set_option maxRecDepth 100000
set_option maxHeartbeats 40000000
theorem kQ:Ay (BC Tryz.f26 6) [] (List.range 9) []:=by unfold Ay;kernel_rfl
def O6:Bb:=fun i=>match i with
 | 6=>.ord [] (List.range 9) []
 | _=>.no
inductive SB where
 | l1 (x5:Int)
def PB (n:Nat) (self:SB -> Option Bool) (a b_:List Int) (x5:Int):Option Bool:=
 bif (decide (x5<(a.length:Int))) then
  if (0<=x5/\ x5<(a.length:Int))/\ (0<=x5/\ x5<(b_.length:Int)) then
   bif ((a.getD ((x5).toNat) 0) != (b_.getD ((x5).toNat) 0)) then
    some false
   else
    if AH (x5+1) then
     self (.l1 (x5+1))
    else none
  else none
 else
  some true
def aS (n:Nat) (self:SB -> Option Bool) (a b_:List Int):Option Bool:=
 bif ((a.length:Int) != (b_.length:Int)) then
  some false
 else
  self (.l1 0)
def NG (a b_:List Int):Nat -> SB -> Option Bool
 | 0,_=>none
 | n+1,.l1 x5=>PB n (NG a b_ n) a b_ x5
def same (n:Nat) (a b_:List Int):Option Bool:=aS n (NG a b_ n) a b_
def kC (n B:Nat) (N:Yd 0) (a b_:List Int) (r:Bool):SB -> Prop
 | .l1 x5=>∀ m0:Nat,n<=m0 -> TW B N (FQ Tryz.f26 0 (.bool r) []) (A2 m0 (BA (AX Tryz.f26) 0 [])) ⟨AM 26 [(0,.ints a),(1,.ints b_),(5,.i x5)],[]⟩
theorem kD (B:Nat) (N:Yd 0) (a b_:List Int):Al (NG a b_) (kC · B N a b_):=ia (fun _=>rfl) fun n AG pt r h=>by
 cases pt
 case l1 x5=>
  intro m0 AC;refine rd AC fun m0 AC=>?_
  revert r;apply gO;exact bi 14 (jg kQ (gc (gi (gi (bi 25 (lE O6 [4] []) (gw 16 (lG O6 [] (AG _ _ · m0 AC)))))))) (lE O6 [4] [])
theorem VW {n:Nat} {a b_:List Int} {r:Bool} (h:same n a b_=some r):EQ 26 [.ints a,.ints b_] [] (.bool r) [] true:=by
 refine ot Tryz.func26 fun B N=>?_
 revert r;apply gO;exact bi 10 (lE O6 [4] []) (lN O6 [] ((kD B N a b_ n) _ _ · n Nat.le.refl))
inductive TZ where
 | l1 (x8:Int)
def Wy (n:Nat) (self:TZ -> Option Int) (s_:List Int) (v:Int) (x8:Int):Option Int:=
 bif (decide (x8<(s_.length:Int))) then
  if 0<=x8/\ x8<(s_.length:Int) then
   bif (v==(s_.getD ((x8).toNat) 0)) then
    some x8
   else
    if AH (x8+1) then
     self (.l1 (x8+1))
    else none
  else none
 else
  some (-1)
def dQ (n:Nat) (self:TZ -> Option Int) (s_:List Int) (v:Int):Option Int:=
 self (.l1 0)
def MD (s_:List Int) (v:Int):Nat -> TZ -> Option Int
 | 0,_=>none
 | n+1,.l1 x8=>Wy n (MD s_ v n) s_ v x8
def Ta (n:Nat) (s_:List Int) (v:Int):Option Int:=dQ n (MD s_ v n) s_ v
def qj (n B:Nat) (N:Yd 0) (s_:List Int) (v:Int) (r:Int):TZ -> Prop
 | .l1 x8=>∀ m0:Nat,n<=m0 -> TW B N (FQ Tryz.f130 0 (.i r) []) (A2 m0 (BA (AX Tryz.f130) 0 [])) ⟨AM 19 [(0,.ints s_),(1,.i v),(7,.i (s_.length:Int)),(8,.i x8)],[]⟩
theorem qk (B:Nat) (N:Yd 0) (s_:List Int) (v:Int):Al (MD s_ v) (qj · B N s_ v):=ia (fun _=>rfl) fun n AG pt r h=>by
 cases pt
 case l1 x8=>
  intro m0 AC;refine rd AC fun m0 AC=>?_
  revert r;apply gO;exact bi 9 (gi (bi 16 (lE AE [4] []) (gw 18 (lG AE [] (AG _ _ · m0 AC))))) (lE AE [4] [])
theorem qi {n:Nat} {s_:List Int} {v:Int} {r:Int} (h:Ta n s_ v=some r):EQ 130 [.ints s_,.i v] [] (.i r) [] true:=by
 refine ot Tryz.func130 fun B N=>?_
 revert r;apply gO;exact lN AE [] ((qk B N s_ v n) _ _ · n Nat.le.refl)
inductive Tb where
 | l1 (x8:Int)
def QO (n:Nat) (self:Tb -> Option Int) (s_:List Bool) (v:Bool) (x8:Int):Option Int:=
 bif (decide (x8<(s_.length:Int))) then
  if 0<=x8/\ x8<(s_.length:Int) then
   bif (v==(s_.getD ((x8).toNat) false)) then
    some x8
   else
    if AH (x8+1) then
     self (.l1 (x8+1))
    else none
  else none
 else
  some (-1)
def qm (n:Nat) (self:Tb -> Option Int) (s_:List Bool) (v:Bool):Option Int:=
 self (.l1 0)
def Jk (s_:List Bool) (v:Bool):Nat -> Tb -> Option Int
 | 0,_=>none
 | n+1,.l1 x8=>QO n (Jk s_ v n) s_ v x8
def Tc (n:Nat) (s_:List Bool) (v:Bool):Option Int:=qm n (Jk s_ v n) s_ v
def qn (n B:Nat) (N:Yd 0) (s_:List Bool) (v:Bool) (r:Int):Tb -> Prop
 | .l1 x8=>∀ m0:Nat,n<=m0 -> TW B N (FQ Tryz.f121 0 (.i r) []) (A2 m0 (BA (AX Tryz.f121) 0 [])) ⟨AM 19 [(0,.bools s_),(1,.bool v),(7,.i (s_.length:Int)),(8,.i x8)],[]⟩
theorem qo (B:Nat) (N:Yd 0) (s_:List Bool) (v:Bool):Al (Jk s_ v) (qn · B N s_ v):=ia (fun _=>rfl) fun n AG pt r h=>by
 cases pt
 case l1 x8=>
  intro m0 AC;refine rd AC fun m0 AC=>?_
  revert r;apply gO;exact bi 9 (gi (bi 16 (lE AE [4] []) (gw 18 (lG AE [] (AG _ _ · m0 AC))))) (lE AE [4] [])
theorem ql {n:Nat} {s_:List Bool} {v:Bool} {r:Int} (h:Tc n s_ v=some r):EQ 121 [.bools s_,.bool v] [] (.i r) [] true:=by
 refine ot Tryz.func121 fun B N=>?_
 revert r;apply gO;exact lN AE [] ((qo B N s_ v n) _ _ · n Nat.le.refl)
def YT (n:Nat) (s_:List Int) (v:Int):Option Bool:=
 (Ta n s_ v).bind fun y1=>
  some (decide (y1>=0))
def LG (n:Nat) (s_:List Int) (v:Int):Option Bool:=YT n s_ v
theorem fw {n:Nat} {s_:List Int} {v:Int} {r:Bool} (h:LG n s_ v=some r):EQ 119 [.ints s_,.i v] [] (.bool r) [] true:=by
 unfold LG YT at h;refine ot Tryz.func119 fun B N=>?_
 revert r;apply gO;exact cf qi [] fun _=>lE AE [4] []
theorem lL:Ay (BC Tryz.f40 6) [] (List.range 9) []:=by unfold Ay;kernel_rfl
def O8:Bb:=fun i=>match i with
 | 6=>.ord [] (List.range 9) []
 | _=>.no
inductive UO where
 | l1 (x13:Int)
def Qs (n:Nat) (self:UO -> Option Bool) (Dy EP:List Int) (x13:Int):Option Bool:=
 bif (decide (x13<(Dy.length:Int))) then
  if (0<=x13/\ x13<(Dy.length:Int))/\ (0<=x13/\ x13<(EP.length:Int)) then
   bif ((Dy.getD ((x13).toNat) 0) != (EP.getD ((x13).toNat) 0)) then
    some false
   else
    if AH (x13+1) then
     self (.l1 (x13+1))
    else none
  else none
 else
  some true
def fV (n:Nat) (self:UO -> Option Bool) (Dy EP:List Int):Option Bool:=
 bif ((Dy.length:Int) != (EP.length:Int)) then
  some false
 else
  self (.l1 0)
def OJ (Dy EP:List Int):Nat -> UO -> Option Bool
 | 0,_=>none
 | n+1,.l1 x13=>Qs n (OJ Dy EP n) Dy EP x13
def Qt (n:Nat) (Dy EP:List Int):Option Bool:=fV n (OJ Dy EP n) Dy EP
def vY (n B:Nat) (N:Yd 0) (Dy EP:List Int) (r:Bool):UO -> Prop
 | .l1 x13=>∀ m0:Nat,n<=m0 -> TW B N (FQ Tryz.f40 0 (.bool r) []) (A2 m0 (BA (AX Tryz.f40) 0 [])) ⟨AM 26 [(0,.ints Dy),(1,.ints EP),(12,.i (Dy.length:Int)),(13,.i x13)],[]⟩
theorem vZ (B:Nat) (N:Yd 0) (Dy EP:List Int):Al (OJ Dy EP) (vY · B N Dy EP):=ia (fun _=>rfl) fun n AG pt r h=>by
 cases pt
 case l1 x13=>
  intro m0 AC;refine rd AC fun m0 AC=>?_
  revert r;apply gO;exact bi 14 (jg lL (gc (gi (gi (bi 24 (lE O8 [4] []) (gw 25 (lG O8 [] (AG _ _ · m0 AC)))))))) (lE O8 [4] [])
theorem vW {n:Nat} {Dy EP:List Int} {r:Bool} (h:Qt n Dy EP=some r):EQ 40 [.ints Dy,.ints EP] [] (.bool r) [] true:=by
 refine ot Tryz.func40 fun B N=>?_
 revert r;apply gO;exact bi 10 (lE O8 [4] []) (lN O8 [] ((vZ B N Dy EP n) _ _ · n Nat.le.refl))
inductive OB where
 | l1 (A4:Int)
 | l2 (x3:Int) (x4:List Int) (A4:Int) (A5:List Int) (JD Cj:Int)
def YC (n:Nat) (self:OB -> Option Int) (g_:List (List Int)) (A4:Int):Option Int:=
 bif (decide (A4<(g_.length:Int))) then
  if 0<=A4/\ A4<(g_.length:Int) then
   self (.l2 A4 (g_.getD ((A4).toNat) []) A4 (g_.getD ((A4).toNat) []) (((g_.getD ((A4).toNat) []).length:Nat):Int) 0)
  else none
 else
  some 0
def T8 (n:Nat) (self:OB -> Option Int) (g_:List (List Int)) (x3:Int) (x4:List Int) (A4:Int) (A5:List Int) (JD Cj:Int):Option Int:=
 bif (decide (Cj<JD)) then
  if 0<=Cj/\ Cj<(A5.length:Int) then
   bif (decide ((A5.getD ((Cj).toNat) 0)<0)) then
    some 120
   else
    bif (decide ((A5.getD ((Cj).toNat) 0)>=(g_.length:Int))) then
     some 120
    else
     bif ((A5.getD ((Cj).toNat) 0)==x3) then
      some 120
     else
      bif (decide (Cj>0)) then
       if AH (Cj-1)/\ (0<=(Cj-1)/\ (Cj-1)<(x4.length:Int)) then
        bif (decide ((x4.getD (((Cj-1)).toNat) 0)>=(A5.getD ((Cj).toNat) 0))) then
         some 120
        else
         if 0<=(A5.getD ((Cj).toNat) 0)/\ (A5.getD ((Cj).toNat) 0)<(g_.length:Int) then
          (LG n (g_.getD ((A5.getD ((Cj).toNat) 0).toNat) []) x3).bind fun y1=>
           bif (!y1) then
            some 120
           else
            if AH (Cj+1) then
             self (.l2 x3 x4 A4 A5 JD (Cj+1))
            else none
         else none
       else none
      else
       if 0<=(A5.getD ((Cj).toNat) 0)/\ (A5.getD ((Cj).toNat) 0)<(g_.length:Int) then
        (LG n (g_.getD ((A5.getD ((Cj).toNat) 0).toNat) []) x3).bind fun y1=>
         bif (!y1) then
          some 120
         else
          if AH (Cj+1) then
           self (.l2 x3 x4 A4 A5 JD (Cj+1))
          else none
       else none
  else none
 else
  if AH (A4+1) then
   self (.l1 (A4+1))
  else none
def fG (n:Nat) (self:OB -> Option Int) (g_:List (List Int)):Option Int:=
 bif (decide ((g_.length:Int)>256)) then
  some 120
 else
  self (.l1 0)
def H8 (g_:List (List Int)):Nat -> OB -> Option Int
 | 0,_=>none
 | n+1,.l1 A4=>YC n (H8 g_ n) g_ A4
 | n+1,.l2 x3 x4 A4 A5 JD Cj=>T8 n (H8 g_ n) g_ x3 x4 A4 A5 JD Cj
def Qk (n:Nat) (g_:List (List Int)):Option Int:=fG n (H8 g_ n) g_
def ut (n B:Nat) (N:Yd 0) (g_:List (List Int)) (r:Int):OB -> Prop
 | .l1 A4=>∀ m0:Nat,n<=m0 -> TW B N (FQ Tryz.f96 0 (.i r) []) (A2 m0 (BA (AX Tryz.f96) 0 [])) ⟨AM 61 [(0,.sl 1 g_.length (Am Ar g_)),(10,.sl 1 g_.length (Am Ar g_)),(11,.i (g_.length:Int)),(12,.i A4)],[]⟩
 | .l2 x3 x4 A4 A5 JD Cj=>∀ m0 m1:Nat,n<=m0 -> n<=m1 -> TW B N (FQ Tryz.f96 0 (.i r) []) (A2 m1 (BA (AX Tryz.f96) 2 [m0])) ⟨AM 61 [(0,.sl 1 g_.length (Am Ar g_)),(3,.i x3),(4,.ints x4),(10,.sl 1 g_.length (Am Ar g_)),(11,.i (g_.length:Int)),(12,.i A4),(17,.ints A5),(18,.i JD),(19,.i Cj)],[]⟩
theorem uu (B:Nat) (N:Yd 0) (g_:List (List Int)):Al (H8 g_) (ut · B N g_):=ia (fun _=>rfl) fun n AG pt r h=>by
 cases pt
 case l1 A4=>
  intro m0 AC;refine rd AC fun m0 AC=>?_
  revert r;apply gO;exact bi 13 (gi (lN AE [] (AG _ _ · m0 n AC Nat.le.refl))) (lE AE [2] [])
 case l2 x3 x4 A4 A5 JD Cj=>
  intro m0 m1 AC Ap;have AC:=zA AC;refine rd Ap fun m1 Ap=>?_
  revert r;apply gO;exact bi 20 (gi (bi 25 (lE AE [2] []) (bi 30 (lE AE [2] []) (bi 35 (lE AE [2] []) (bi 39 (gc (gw 43 (gi (bi 47 (lE AE [2] []) (gi (cf fw [] fun _=>bi 57 (lE AE [2] []) (gw 59 (lG AE [] (AG _ _ · m0 m1 AC Ap))))))))) (gi (cf fw [] fun _=>bi 57 (lE AE [2] []) (gw 59 (lG AE [] (AG _ _ · m0 m1 AC Ap)))))))))) (gw 60 (lG AE [] (AG _ _ · m0 AC)))
theorem fF {n:Nat} {g_:List (List Int)} {r:Int} (h:Qk n g_=some r):EQ 96 [.sl 1 g_.length (Am Ar g_)] [] (.i r) [] true:=by
 refine ot Tryz.func96 fun B N=>?_
 revert r;apply gO;exact bi 9 (lE AE [2] []) (lN AE [] ((uu B N g_ n) _ _ · n Nat.le.refl))
inductive UM where
 | l1 (x3:Int)
def UL (n:Nat) (self:UM -> Option Bool) (q:AA) (x3:Int):Option Bool:=
 bif (decide (x3<(q.cons.length:Int))) then
  if 0<=x3/\ x3<(q.cons.length:Int) then
   bif (decide (((((q.cons.getD ((x3).toNat) default).cells).length:Nat):Int)>20)) then
    some false
   else
    bif (decide (((((q.cons.getD ((x3).toNat) default).runs).length:Nat):Int)>10)) then
     some false
    else
     if AH (x3+1) then
      self (.l1 (x3+1))
     else none
  else none
 else
  some true
def fS (n:Nat) (self:UM -> Option Bool) (q:AA):Option Bool:=
 bif (decide (q.cells>16)) then
  some false
 else
  bif (decide (q.symbols>6)) then
   some false
  else
   bif (decide ((q.values.length:Int)>8)) then
    some false
   else
    bif (decide ((q.nbrs.length:Int)>20)) then
     some false
    else
     bif (decide ((q.cons.length:Int)>120)) then
      some false
     else
      self (.l1 0)
def Jw (q:AA):Nat -> UM -> Option Bool
 | 0,_=>none
 | n+1,.l1 x3=>UL n (Jw q n) q x3
def UN (n:Nat) (q:AA):Option Bool:=fS n (Jw q n) q
def vQ (n B:Nat) (N:Yd 0) (q:AA) (r:Bool):UM -> Prop
 | .l1 x3=>∀ m0:Nat,n<=m0 -> TW B N (FQ Tryz.f56 0 (.bool r) []) (A2 m0 (BA (AX Tryz.f56) 0 [])) ⟨AM 55 [(1,.ref 0 0),(3,.i x3)],[some (.cells (AD q))]⟩
theorem vR (B:Nat) (N:Yd 0) (q:AA):Al (Jw q) (vQ · B N q):=ia (fun _=>rfl) fun n AG pt r h=>by
 cases pt
 case l1 x3=>
  intro m0 AC;refine rd AC fun m0 AC=>?_
  revert r;apply gO;exact bi 34 (gn fun g0=>jg g0 (bi 44 (lE AE [2] []) (jg g0 (bi 53 (lE AE [2] []) (gw 36 (lG AE [0] (AG _ _ · m0 AC))))))) (lE AE [2] [])
theorem vP {n:Nat} {q:AA} {r:Bool} (h:UN n q=some r):EQ 56 [.agg 5 (L1 (AD q))] [] (.bool r) [] true:=by
 refine ot Tryz.func56 fun B N=>?_
 revert r;apply gO;exact bi 6 (lE AE [2] []) (bi 10 (lE AE [2] []) (bi 16 (lE AE [2] []) (bi 22 (lE AE [2] []) (bi 28 (lE AE [2] []) (lN AE [0] ((vR B N q n) _ _ · n Nat.le.refl))))))
end Go.Proofs.YtgkhhfnhacibcaaGreatDoor
namespace Go.Proofs.YtgkhhfnhacibcaaGreatDoor
open Go.RowKit
set_option maxRecDepth 100000
set_option maxHeartbeats 40000000
def ZI (n:Nat) (v lo hi:Int):Option Bool:=
 bif (decide (v<lo)) then
  some true
 else
  some (decide (v>hi))
def U7 (n:Nat) (v lo hi:Int):Option Bool:=ZI n v lo hi
theorem iY {n:Nat} {v lo hi:Int} {r:Bool} (h:U7 n v lo hi=some r):EQ 118 [.i v,.fp 1 (L1 [.i lo]),.fp 1 (L1 [.i hi])] [] (.bool r) [] true:=by
 refine ot Tryz.func118 fun B N=>?_
 revert r;apply gO;exact bi 7 (lE AE [4] []) (lE AE [4] [])
inductive TX where
 | l1 (x8:Int)
def Wx (n:Nat) (self:TX -> Option Int) (l:List Int) (lo hi:Int) (x8:Int):Option Int:=
 bif (decide (x8<(l.length:Int))) then
  if 0<=x8/\ x8<(l.length:Int) then
   (U7 n (l.getD ((x8).toNat) 0) lo hi).bind fun y1=>
    bif y1 then
     some x8
    else
     if AH (x8+1) then
      self (.l1 (x8+1))
     else none
  else none
 else
  some (-1)
def dO (n:Nat) (self:TX -> Option Int) (l:List Int) (lo hi:Int):Option Int:=
 self (.l1 0)
def MC (l:List Int) (lo hi:Int):Nat -> TX -> Option Int
 | 0,_=>none
 | n+1,.l1 x8=>Wx n (MC l lo hi n) l lo hi x8
def TY (n:Nat) (l:List Int) (lo hi:Int):Option Int:=dO n (MC l lo hi n) l lo hi
def qg (n B:Nat) (N:Yd 0) (l:List Int) (lo hi:Int) (r:Int):TX -> Prop
 | .l1 x8=>∀ m0:Nat,n<=m0 -> TW B N (FQ Tryz.f41 0 (.i r) []) (A2 m0 (BA (AX Tryz.f41) 0 [])) ⟨AM 19 [(0,.ints l),(1,.fn 118 2 (L1 [.fp 1 (L1 [.i lo]),.fp 1 (L1 [.i hi])])),(7,.i (l.length:Int)),(8,.i x8)],[]⟩
theorem qh (B:Nat) (N:Yd 0) (l:List Int) (lo hi:Int):Al (MC l lo hi) (qg · B N l lo hi):=ia (fun _=>rfl) fun n AG pt r h=>by
 cases pt
 case l1 x8=>
  intro m0 AC;refine rd AC fun m0 AC=>?_
  revert r;apply gO;exact bi 9 (gi (cf iY [] fun _=>bi 16 (lE AE [4] []) (gw 18 (lG AE [] (AG _ _ · m0 AC))))) (lE AE [4] [])
theorem qe {n:Nat} {l:List Int} {lo hi:Int} {r:Int} (h:TY n l lo hi=some r):EQ 41 [.ints l,.fn 118 2 (L1 [.fp 1 (L1 [.i lo]),.fp 1 (L1 [.i hi])])] [] (.i r) [] true:=by
 refine ot Tryz.func41 fun B N=>?_
 revert r;apply gO;exact lN AE [] ((qh B N l lo hi n) _ _ · n Nat.le.refl)
def YS (n:Nat) (l:List Int) (lo hi:Int):Option Bool:=
 (TY n l lo hi).bind fun y1=>
  some (decide (y1>=0))
def Ua (n:Nat) (l:List Int) (lo hi:Int):Option Bool:=YS n l lo hi
theorem wO {n:Nat} {l:List Int} {lo hi:Int} {r:Bool} (h:Ua n l lo hi=some r):EQ 48 [.ints l,.fn 118 2 (L1 [.fp 1 (L1 [.i lo]),.fp 1 (L1 [.i hi])])] [] (.bool r) [] true:=by
 unfold Ua YS at h;refine ot Tryz.func48 fun B N=>?_
 revert r;apply gO;exact cf qe [] fun _=>lE AE [4] []
def Vv (n:Nat) (l_:List Int) (lo hi:Int):Option Bool:=
 (Ua n l_ lo hi).bind fun y1=>
  some (!y1)
def Ke (n:Nat) (l_:List Int) (lo hi:Int):Option Bool:=Vv n l_ lo hi
theorem SY {n:Nat} {l_:List Int} {lo hi:Int} {r:Bool} (h:Ke n l_ lo hi=some r):EQ 95 [.ints l_,.i lo,.i hi] [] (.bool r) [] true:=by
 unfold Ke Vv at h;refine ot Tryz.func95 fun B N=>?_
 revert r;apply gO;exact cn fun y1 A7=>jc (sb [.ints l_,.fn 118 2 (L1 [.ref 0 0,.ref 1 0])] (wO A7) [some (.cells [.i lo]),some (.cells [.i hi])] ⟨Ab.plain (by kernel_rfl),(Ab.fnL (l:=[.ref 0 0,.ref 1 0]) (l0:=[.fp 1 (L1 [.i lo]),.fp 1 (L1 [.i hi])]) ⟨(Ab.refL (l:=[.i lo]) (l0:=[.i lo]) rfl ⟨Ab.plain (by kernel_rfl),trivial⟩),(Ab.refL (l:=[.i hi]) (l0:=[.i hi]) rfl ⟨Ab.plain (by kernel_rfl),trivial⟩),trivial⟩),trivial⟩) (lE AE [6] [])
theorem lK:Ay (BC Tryz.f98 24) [([0,1,2,3,5,6,7,8],4),([],9),([10,11,12,13,14],15),([],16),([17,18,19,20,21,22,23,24,25,26],27)] [28,29] []:=by unfold Ay;kernel_rfl
def C8:Bb:=fun i=>match i with
 | 24=>.ord [([0,1,2,3,5,6,7,8],4),([],9),([10,11,12,13,14],15),([],16),([17,18,19,20,21,22,23,24,25,26],27)] [28,29] []
 | _=>.no
def dx (q:AA) (c_:AB):DH:=[some (.cells (AD q)),some (.cells (AF c_)),some (.ints ([c_.set,c_.other]:List Int)),some (.ints ([c_.lo,c_.hi]:List Int))]
inductive K6 where
 | l1 (Aj:Int) (o2:List Bool)
 | l2
def Qq (n:Nat) (self:K6 -> Option Bool) (q:AA) (c_:AB) (Aj:Int) (o2:List Bool):Option Bool:=
 bif (decide (Aj<(c_.cells.length:Int))) then
  if 0<=Aj/\ Aj<(c_.cells.length:Int) then
   bif (decide ((c_.cells.getD ((Aj).toNat) 0)<0)) then
    some false
   else
    bif (decide ((c_.cells.getD ((Aj).toNat) 0)>=q.cells)) then
     some false
    else
     if (0<=(c_.cells.getD ((Aj).toNat) 0)/\ (c_.cells.getD ((Aj).toNat) 0)<((256:Nat):Int))/\ 0+((c_.cells.getD ((Aj).toNat) 0).toNat)<o2.length then
      bif (o2.getD (0+((c_.cells.getD ((Aj).toNat) 0).toNat)) false) then
       some false
      else
       bif (decide (c_.kind>=8)) then
        bif ((c_.cells.getD ((Aj).toNat) 0) != Aj) then
         some false
        else
         if AH (Aj+1) then
          self (.l1 (Aj+1) (o2.set (0+((c_.cells.getD ((Aj).toNat) 0).toNat)) true))
         else none
       else
        if AH (Aj+1) then
         self (.l1 (Aj+1) (o2.set (0+((c_.cells.getD ((Aj).toNat) 0).toNat)) true))
        else none
     else none
  else none
 else
  bif (c_.kind==1) then
   self (.l2)
  else
   bif (c_.kind==2) then
    self (.l2)
   else
    bif (c_.kind==3) then
     self (.l2)
    else
     bif (c_.kind==4) then
      self (.l2)
     else
      bif (c_.kind==5) then
       self (.l2)
      else
       bif (c_.kind==6) then
        bif ((c_.cells.length:Int) != 2) then
         some false
        else
         self (.l2)
       else
        bif (c_.kind==7) then
         bif ((c_.cells.length:Int) != 2) then
          some false
         else
          self (.l2)
        else
         bif (c_.kind==8) then
          bif ((c_.cells.length:Int) != q.cells) then
           some false
          else
           self (.l2)
         else
          bif (c_.kind==9) then
           bif ((c_.cells.length:Int) != q.cells) then
            some false
           else
            self (.l2)
          else
           some false
def UG (n:Nat) (self:K6 -> Option Bool) (q:AA) (c_:AB):Option Bool:=
 if (0<=q.symbols/\ q.symbols<=(IntKind.i64.bits:Int))/\ AH ((IntKind.i64.wrap (1*2 ^ (q.symbols).toNat))-1) then
  (Ke n ([c_.set,c_.other]:List Int) 0 ((IntKind.i64.wrap (1*2 ^ (q.symbols).toNat))-1)).bind fun y1=>
   bif y1 then
    (Ke n ([c_.lo,c_.hi]:List Int) 0 65536).bind fun y2=>
     bif y2 then
      bif (decide ((c_.runs.length:Int)<=8)) then
       (Ke n c_.runs 1 256).bind fun y3=>
        some y3
      else
       some false
     else
      some false
   else
    some false
 else none
def fO (n:Nat) (self:K6 -> Option Bool) (q:AA) (c_:AB):Option Bool:=
 self (.l1 0 (List.replicate 256 false))
def OF (q:AA) (c_:AB):Nat -> K6 -> Option Bool
 | 0,_=>none
 | n+1,.l1 Aj o2=>Qq n (OF q c_ n) q c_ Aj o2
 | n+1,.l2=>UG n (OF q c_ n) q c_
def UH (n:Nat) (q:AA) (c_:AB):Option Bool:=fO n (OF q c_ n) q c_
def vG (n B:Nat) (N:Yd 0) (q:AA) (c_:AB) (r:Bool):K6 -> Prop
 | .l1 Aj o2=>∀ m0:Nat,n<=m0 -> TW B N (FQ Tryz.f98 0 (.bool r) []) (A2 m0 (BA (AX Tryz.f98) 0 [])) ⟨AM 95 [(2,.ref 0 0),(3,.ref 1 0),(5,.mp 2 1 0 0),(9,.ints c_.cells),(10,.i (c_.cells.length:Int)),(11,.i Aj)],[some (.cells (AD q)),some (.cells (AF c_)),some (.bools o2)]⟩
 | .l2=>TW B N (FQ Tryz.f98 0 (.bool r) []) (CP (AX Tryz.f98) 24 []) ⟨AM 95 [(2,.ref 0 0),(3,.ref 1 0)],[some (.cells (AD q)),some (.cells (AF c_))]⟩
theorem vH (B:Nat) (N:Yd 0) (q:AA) (c_:AB):Al (OF q c_) (vG · B N q c_):=ia (fun _=>rfl) fun n AG pt r h=>by
 cases pt
 case l1 Aj o2=>
  intro m0 AC;refine rd AC fun m0 AC=>?_
  revert r;apply gO;exact bi 12 (gi (bi 17 (lE (AI 24 C8) [4] []) (bi 22 (lE (AI 24 C8) [4] []) (gc (gn fun g1=>jg g1 (gn fun g2=>jg g2 (bi 27 (lE (AI 24 C8) [4] []) (bi 32 (bi 36 (lE (AI 24 C8) [4] []) (jg g1 (jg g2 (gw 41 (lG (AI 24 C8) [0,1,2] (AG _ _ · m0 AC)))))) (jg g1 (jg g2 (gw 41 (lG (AI 24 C8) [0,1,2] (AG _ _ · m0 AC))))))))))))) (bi 45 (lG (AI 24 C8) [0,1] (AG _ _ ·)) (bi 46 (lG (AI 24 C8) [0,1] (AG _ _ ·)) (bi 47 (lG (AI 24 C8) [0,1] (AG _ _ ·)) (bi 48 (lG (AI 24 C8) [0,1] (AG _ _ ·)) (bi 49 (lG (AI 24 C8) [0,1] (AG _ _ ·)) (bi 51 (bi 56 (lE (AI 24 C8) [4] []) (lG (AI 24 C8) [0,1] (AG _ _ ·))) (bi 52 (bi 56 (lE (AI 24 C8) [4] []) (lG (AI 24 C8) [0,1] (AG _ _ ·))) (bi 58 (bi 65 (lE (AI 24 C8) [4] []) (lG (AI 24 C8) [0,1] (AG _ _ ·))) (bi 59 (bi 65 (lE (AI 24 C8) [4] []) (lG (AI 24 C8) [0,1] (AG _ _ ·))) (lE (AI 24 C8) [4] []))))))))))
 case l2=>
  revert r;apply gO;exact jg lK (gc (gi (gw 74 (cn fun y1 A7=>jc (sb [.msl 2 1 0 2,.i 0,.i ((IntKind.i64.wrap (1*2 ^ (q.symbols).toNat))-1)] (SY A7) [some (.cells (AD q)),some (.cells (AF c_)),some (.ints ([c_.set,c_.other]:List Int))] ⟨Ab.ints rfl (Eq.refl 2),Ab.plain (by kernel_rfl),Ab.plain (by kernel_rfl),trivial⟩) (bi 75 (cn fun y2 Bu=>jc (sb [.msl 3 1 0 2,.i 0,.i 65536] (SY Bu) (dx q c_) ⟨Ab.ints rfl (Eq.refl 2),Ab.plain (by kernel_rfl),Ab.plain (by kernel_rfl),trivial⟩) (bi 82 (bi 88 (cf SY (dx q c_) fun _=>lE C8 [4] []) (lE C8 [4] [])) (lE C8 [4] []))) (lE C8 [4] []))))))
theorem vD {n:Nat} {q:AA} {c_:AB} {r:Bool} (h:UH n q c_=some r):EQ 98 [.agg 5 (L1 (AD q)),.agg 9 (L1 (AF c_))] [] (.bool r) [] true:=by
 refine ot Tryz.func98 fun B N=>?_
 revert r;apply gO;exact lN (AI 24 C8) [0,1,2] ((vH B N q c_ n) _ _ · n Nat.le.refl)
def VE (n:Nat) (c:AB) (q:AA):Option Bool:=
 (UH n q c).bind fun y1=>
  some (!y1)
def Rf (n:Nat) (c:AB) (q:AA):Option Bool:=VE n c q
theorem ii {n:Nat} {c:AB} {q:AA} {r:Bool} (h:Rf n c q=some r):EQ 97 [.agg 9 (L1 (AF c)),.fp 5 (L1 (AD q))] [] (.bool r) [] true:=by
 unfold Rf VE at h;refine ot Tryz.func97 fun B N=>?_
 revert r;apply gO;exact cf vD [some (.cells (AF c))] fun _=>lE AE [3] []
inductive TT where
 | l1 (x8:Int)
def TS (n:Nat) (self:TT -> Option Int) (l:List AB) (q:AA) (x8:Int):Option Int:=
 bif (decide (x8<(l.length:Int))) then
  if 0<=x8/\ x8<(l.length:Int) then
   (Rf n (l.getD ((x8).toNat) default) q).bind fun y1=>
    bif y1 then
     some x8
    else
     if AH (x8+1) then
      self (.l1 (x8+1))
     else none
  else none
 else
  some (-1)
def dM (n:Nat) (self:TT -> Option Int) (l:List AB) (q:AA):Option Int:=
 self (.l1 0)
def Kp (l:List AB) (q:AA):Nat -> TT -> Option Int
 | 0,_=>none
 | n+1,.l1 x8=>TS n (Kp l q n) l q x8
def TU (n:Nat) (l:List AB) (q:AA):Option Int:=dM n (Kp l q n) l q
def qY (n B:Nat) (N:Yd 0) (l:List AB) (q:AA) (r:Int):TT -> Prop
 | .l1 x8=>∀ m0:Nat,n<=m0 -> TW B N (FQ Tryz.f92 0 (.i r) []) (A2 m0 (BA (AX Tryz.f92) 0 [])) ⟨AM 19 [(0,.sl 9 l.length (Am AF l)),(1,.fn 97 1 (L1 [.fp 5 (L1 (AD q))])),(7,.i (l.length:Int)),(8,.i x8)],[]⟩
theorem qZ (B:Nat) (N:Yd 0) (l:List AB) (q:AA):Al (Kp l q) (qY · B N l q):=ia (fun _=>rfl) fun n AG pt r h=>by
 cases pt
 case l1 x8=>
  intro m0 AC;refine rd AC fun m0 AC=>?_
  revert r;apply gO;exact bi 9 (gi (cf ii [] fun _=>bi 16 (lE AE [4] []) (gw 18 (lG AE [] (AG _ _ · m0 AC))))) (lE AE [4] [])
theorem qX {n:Nat} {l:List AB} {q:AA} {r:Int} (h:TU n l q=some r):EQ 92 [.sl 9 l.length (Am AF l),.fn 97 1 (L1 [.fp 5 (L1 (AD q))])] [] (.i r) [] true:=by
 refine ot Tryz.func92 fun B N=>?_
 revert r;apply gO;exact lN AE [] ((qZ B N l q n) _ _ · n Nat.le.refl)
def YQ (n:Nat) (l:List AB) (q:AA):Option Bool:=
 (TU n l q).bind fun y1=>
  some (decide (y1>=0))
def UZ (n:Nat) (l:List AB) (q:AA):Option Bool:=YQ n l q
theorem wM {n:Nat} {l:List AB} {q:AA} {r:Bool} (h:UZ n l q=some r):EQ 61 [.sl 9 l.length (Am AF l),.fn 97 1 (L1 [.fp 5 (L1 (AD q))])] [] (.bool r) [] true:=by
 unfold UZ YQ at h;refine ot Tryz.func61 fun B N=>?_
 revert r;apply gO;exact cf qX [] fun _=>lE AE [4] []
def ZK (n:Nat) (q:AA):Option Int:=
 bif (decide (q.cells<1)) then
  some 191
 else
  bif (decide (q.cells>256)) then
   some 191
  else
   bif (decide (q.symbols<1)) then
    some 191
   else
    bif (decide (q.symbols>16)) then
     some 191
    else
     bif ((q.values.length:Int) != q.symbols) then
      some 191
     else
      (Ke n q.values 0 99).bind fun y1=>
       bif (!y1) then
        some 191
       else
        bif ((q.nbrs.length:Int) != q.cells) then
         some 191
        else
         (Qk n q.nbrs).bind fun y2=>
          bif (y2 != 0) then
           some 191
          else
           bif (decide ((q.cons.length:Int)>4096)) then
            some 191
           else
            (UZ n q.cons q).bind fun y3=>
             bif y3 then
              some 191
             else
              some 0
def valid (n:Nat) (q:AA):Option Int:=ZK n q
theorem VA {n:Nat} {q:AA} {r:Int} (h:valid n q=some r):EQ 67 [.agg 5 (L1 (AD q))] [] (.i r) [] true:=by
 refine ot Tryz.func67 fun B N=>?_
 revert r;apply gO;exact bi 5 (lE AE [2] []) (bi 9 (lE AE [2] []) (bi 14 (lE AE [2] []) (bi 19 (lE AE [2] []) (bi 27 (lE AE [2] []) (cf SY [some (.cells (AD q))] fun _=>bi 33 (lE AE [2] []) (bi 40 (lE AE [2] []) (cf fF [some (.cells (AD q))] fun _=>bi 45 (lE AE [2] []) (bi 51 (lE AE [2] []) (cn fun y3 F2=>jc (sb [.sl 9 q.cons.length (Am AF q.cons),.fn 97 1 (L1 [.ref 0 0])] (wM F2) [some (.cells (AD q))] ⟨Ab.plain (by kernel_rfl),(Ab.fnL (l:=[.ref 0 0]) (l0:=[.fp 5 (L1 (AD q))]) ⟨(Ab.refL (l:=(AD q)) (l0:=(AD q)) rfl ⟨Ab.plain (by kernel_rfl),Ab.plain (by kernel_rfl),Ab.plain (by kernel_rfl),Ab.plain (by kernel_rfl),Ab.plain (by kernel_rfl),trivial⟩),trivial⟩),trivial⟩) (bi 56 (lE AE [2] []) (lE AE [2] [])))))))))))
def Wh (n:Nat) (q:AA) (i:Int):Option (Int×Int):=
 (valid n q).bind fun y1=>
  bif (y1 != 0) then
   some (0,y1)
  else
   bif (decide (i<0)) then
    some (0,260)
   else
    bif (decide (i>=(q.cons.length:Int))) then
     some (0,260)
    else
     if (0<=i/\ i<(q.cons.length:Int))/\ ((0:Int)<=((q.cons.getD ((i).toNat) default).kind)/\ ((q.cons.getD ((i).toNat) default).kind)<((10:Nat):Int)) then
      some (([0,1,1,2,2,3,1,1,4,4]:List Int).getD ((q.cons.getD ((i).toNat) default).kind).toNat 0,0)
     else none
def L8 (n:Nat) (q:AA) (i:Int):Option (Int×Int):=Wh n q i
theorem Wg {n:Nat} {q:AA} {i:Int} {r:Int×Int} (h:L8 n q i=some r):EQ 53 [.agg 5 (L1 (AD q)),.i i] [] (.tup 2 (L1 [.i r.1,.i r.2])) [] true:=by
 unfold L8 Wh at h;refine ot Tryz.func53 fun B N=>?_
 revert r;apply gO;exact cf VA [some (.cells (AD q))] fun _=>bi 10 (lE AE [4,5] []) (bi 13 (lE AE [4,5] []) (bi 19 (lE AE [4,5] []) (gc (gi (gn fun g1=>jg g1 (jo 28 (AT.ixI [0,1,1,2,2,3,1,1,4,4] rfl g1) (lE AE [4,5] [])))))))
def YF (n:Nat) (q:AA) (pos:List Int):Option Bool:=
 (UN n q).bind fun y1=>
  bif y1 then
   some (decide ((pos.length:Int)<=20))
  else
   some false
def OG (n:Nat) (q:AA) (pos:List Int):Option Bool:=YF n q pos
theorem vN {n:Nat} {q:AA} {pos:List Int} {r:Bool} (h:OG n q pos=some r):EQ 23 [.agg 5 (L1 (AD q)),.ints pos] [] (.bool r) [] true:=by
 unfold OG YF at h;refine ot Tryz.func23 fun B N=>?_
 revert r;apply gO;exact cf vP [some (.cells (AD q))] fun _=>bi 6 (lE AE [4] []) (lE AE [4] [])
end Go.Proofs.YtgkhhfnhacibcaaGreatDoor
namespace Go.Proofs.YtgkhhfnhacibcaaGreatDoor
abbrev xx:=@cond_false
abbrev yA:=@decide_eq_false
abbrev yB:=@Int.toNat_natCast
abbrev yC:=@cond_true
abbrev zH:=@Bool.not_false
abbrev zI:=@beq_eq_false_iff_ne
abbrev ze:=@Bool.or_false
abbrev zp:=@Int.natCast_nonneg
abbrev zt:=@decide_true
abbrev z8:=@List.exists_of_findSome?_eq_some
abbrev zAF:=@decide_eq_false_iff_not
abbrev zAG:=@Int.eq_ofNat_of_zero_le
abbrev zAS:=@List.contains_iff_mem
abbrev zAW:=@Bool.eq_false_iff
abbrev zAa:=@List.findSome?_eq_none_iff
abbrev zAn:=@List.length_erase_of_mem
abbrev zAx:=@and_self
abbrev zA5:=@List.range'_succ
abbrev zA9:=@List.range_eq_range'
end Go.Proofs.YtgkhhfnhacibcaaGreatDoor
namespace Go.Proofs.YtgkhhfnhacibcaaGreatDoor
def ME (lo hi:Int) (n:Int):Bool:=decide (lo<=n)&&decide (n<=hi)
def EO (xs:List Int) (lo hi:Int):Bool:=xs.all (ME lo hi)
def Gk (g:List (List Int)) (i:Nat) (l:List Int) (k:Nat):Bool:=
 let n:=l.getD k 0
 decide (0<=n)&&decide (n<g.length)&&(n != i)&&(!decide (0<k)||decide (l.getD (k-1) 0<n))&&(g.getD n.toNat []).contains (i:Int)
def IX (g:List (List Int)) (i:Nat) (l:List Int):Bool:=(List.range l.length).all (Gk g i l)
def Jv (g:List (List Int)):Bool:=decide (g.length<=256)&&(List.range g.length).all fun i=>IX g i (g.getD i [])
def Mr (n kind:Int) (cells:List Int) (i:Nat):Bool:=
 let x:=cells.getD i 0
 decide (0<=x)&&decide (x<n)&&!(cells.take i).contains x&&(!decide (8<=kind)||x==(i:Int))
def Uk (n kind:Int) (cells:List Int):Bool:=(List.range cells.length).all (Mr n kind cells)
def Fy (n kind:Int) (len:Nat):Bool:=
 (decide (1<=kind)&&decide (kind<=5))||((kind==6||kind==7)&&len==2)||((kind==8||kind==9)&&(len:Int)==n)
def Ed (q:AA) (c:AB):Bool:=
 Uk q.cells c.kind c.cells&&Fy q.cells c.kind c.cells.length&&
 EO [c.set,c.other] 0 (2 ^ q.symbols.toNat-1)&&EO [c.lo,c.hi] 0 65536&&decide (c.runs.length<=8)&&EO c.runs 1 256
def WR (l:List Int):Bool:=(List.range l.length).all fun i=>!(l.take i).contains (l.getD i 0)
theorem WQ: ∀ (n:Nat) (l:List Int),l.Nodup -> (∀ x∈l,0<=x/\ x<(n:Int)) -> l.length<=n
 | 0,l,_,h=>by
  cases l with
  | nil=>simp
  | cons a l=>have:=h a (by simp);omega
 | n+1,l,hd,h=>by
  have h1:(l.erase (n:Int)).length<=n:=WQ n _ (hd.erase _) (fun x hx=>by
   have:=hd.mem_erase_iff.1 hx;have h2:=h x this.2;have h3:=this.1;omega)
  by_cases hm:(n:Int)∈l
  ·have:=zAn hm;omega
  ·rw [List.erase_of_not_mem hm] at h1;omega
theorem oM {l:List Int}:WR l=true↔l.Nodup:=by
 unfold WR List.Nodup;rw [yJ,List.pairwise_iff_getElem];constructor
 ·intro h i j hi hj Nw e;have:=h j (by simpa using hj);simp only [u8,xy hj,zi,zL] at this;rw [zAW,ne_eq,zAS,List.mem_take_iff_getElem] at this;exact this ⟨i,by omega,e⟩
 ·intro h i hi;have BM:i<l.length:=by simpa using hi
  simp only [u8,xy BM,zi,zL];rw [zAW,ne_eq,zAS,List.mem_take_iff_getElem];rintro ⟨j,hj,e⟩;exact h j i (by omega) BM (by omega) e
theorem Re {l:List Int} {lo hi:Int}:EO l lo hi=true↔∀ x∈l,lo<=x/\ x<=hi:=by
 unfold EO;simp [ME]
theorem wl {n kind:Int} {cells:List Int}:Uk n kind cells=true↔(∀ x∈cells,0<=x/\ x<n)/\ cells.Nodup/\ (8<=kind -> ∀ j,j<cells.length -> cells.getD j 0=(j:Int)):=by
 rw [←oM];unfold Uk WR Mr;simp only [yJ,yR,yD,yd,yX,zL,yo,zAF];constructor
 ·intro h;refine ⟨fun x hx=>?_,fun j hj=>(h j hj).1.2,fun h8 j hj=>?_⟩
  ·obtain ⟨j,hj,rfl⟩:=zR hx;have:=(h j hj).1.1;simpa [hj] using this
  ·rcases (h j hj).2 with h' | h'
   ·exact absurd h8 h'
   ·exact h'
 ·rintro ⟨h1,h2,h3⟩ j hj;have hx:=h1 _ (yY hj);refine ⟨⟨by simpa [hj] using hx,h2 j hj⟩,?_⟩
  by_cases h8:8<=kind
  ·exact .inr (h3 h8 j hj)
  ·exact .inl h8
def Dh (q:AA):Bool:=
 decide (1<=q.cells)&&decide (q.cells<=256)&&decide (1<=q.symbols)&&decide (q.symbols<=16)&&((q.values.length:Int)==q.symbols)&&EO q.values 0 99&&
 ((q.nbrs.length:Int)==q.cells)&&Jv q.nbrs&&decide (q.cons.length<=4096)&&q.cons.all (Ed q)
def Wb (kind:Int):Int:=if kind=3∨kind=4 then 2 else if kind=5 then 3 else if kind=8∨kind=9 then 4 else 1
def Im (q:AA) (i:Int):Int×Int:=
 if Dh q=false then (0,191) else if 0<=i/\ i<q.cons.length then (Wb ((q.cons.getD i.toNat default).kind),0) else (0,260)
theorem Hc {q:AA} (h:Dh q=true):(1<=q.cells/\ q.cells<=256)/\ (1<=q.symbols/\ q.symbols<=16)/\ ((q.values.length:Int)=q.symbols/\ EO q.values 0 99=true)/\
 ((q.nbrs.length:Int)=q.cells/\ Jv q.nbrs=true)/\ q.cons.length<=4096/\ ∀ c∈q.cons,Ed q c=true:=by
 unfold Dh at h;simp only [yD,yd,yo,yJ] at h;obtain ⟨⟨⟨⟨⟨⟨⟨⟨⟨h1,h2⟩,h3⟩,h4⟩,h5⟩,h6⟩,h7⟩,h8⟩,h9⟩,X6⟩:=h;exact ⟨⟨h1,h2⟩,⟨h3,h4⟩,⟨h5,h6⟩,⟨h7,h8⟩,h9,X6⟩
theorem cy {q:AA} {c:AB} (h:Ed q c=true):Fy q.cells c.kind c.cells.length=true:=by
 unfold Ed at h;simp only [yD] at h;exact h.1.1.1.1.2
theorem QD {n kind:Int} {len:Nat} (h:Fy n kind len=true):1<=kind/\ kind<=9:=by
 unfold Fy at h;simp at h;omega
theorem QF {k:Int} (h:1<=k/\ k<=9):k=1∨k=2∨k=3∨k=4∨k=5∨k=6∨k=7∨k=8∨k=9:=by omega
end Go.Proofs.YtgkhhfnhacibcaaGreatDoor
namespace Go.Proofs.YtgkhhfnhacibcaaGreatDoor
open Go.RowKit
theorem aR {R:Type} (m:Nat -> Int -> Option R) (len N0:Nat) (B:Nat -> Option R) (h0: ∀ (n i:Nat),N0<=n -> i<len -> m (n+1) (i:Int)=(B i).or (m n ((i:Int)+1))):
 ∀ (k i n:Nat),i+k=len -> N0<=n -> m (n+k) (i:Int)=((List.range' i k).findSome? B).or (m n (len:Int))
 | 0,i,n,h,hn=>by
  have:i=len:=by omega
  subst this;rfl
 | k+1,i,n,h,hn=>by
  show m (n+k+1) (i:Int)=_
  rw [h0 (n+k) i (by omega) (by omega),zA5,List.findSome?_cons];cases B i with
  | some r=>rfl
  | none=>
   have:=aR m len N0 B h0 k (i+1) n (by omega) hn;rw [←this];simp
theorem O9 {R:Type} (m:Nat -> Int -> Option R) (len N0:Nat) (B:Nat -> Option R) (h0: ∀ (n i:Nat),N0<=n -> i<len -> m (n+1) (i:Int)=(B i).or (m n ((i:Int)+1))) {n:Nat} (hn:N0+len<=n):
 m n 0=((List.range len).findSome? B).or (m (n-len) (len:Int)):=by
 have:=aR m len N0 B h0 len 0 (n-len) (by omega) (by omega);rw [Nat.sub_add_cancel (by omega)] at this;rw [zA9];exact this
theorem fP {R:Type} {l:List Nat} {p:Nat -> Bool} {r:R}:(l.findSome? fun i=>if p i then none else some r)=if l.all p then none else some r:=by
 induction l with
 | nil=>rfl
 | cons a l ih=>
  rw [List.findSome?_cons,zA6];cases hp:p a
  ·simp
  ·simp [ih]
theorem bI {α:Type} {l:List α} {d:α} {p:α -> Bool}:((List.range l.length).all fun i=>p (l.getD i d))=l.all p:=by
 rw [za,yJ,yJ];constructor
 ·intro h x hx;obtain ⟨i,hi,rfl⟩:=zR hx;have:=h i (by simpa using hi);simpa [hi] using this
 ·intro h i hi;have BM:i<l.length:=by simpa using hi
  simp [BM,h _ (yY BM)]
theorem r64 {i len:Nat} (h:i<len) (hl:len<=LB):AH ((i:Int)+1):=by rw [Ax];unfold LB at hl;omega
theorem qf {l:List Int} {lo up:Int} {n:Nat} (hl:l.length<=LB) (hn:l.length<n): ∃ r:Int,TY n l lo up=some r/\ (0<=r↔EO l lo up=false):=by
 unfold TY dO;have S:=O9 (fun n i=>MC l lo up n (.l1 i)) l.length 0 (fun i=>if ME lo up (l.getD i 0) then none else some (i:Int)) (fun n i _ hi=>?_) (n:=n) (by omega)
 ·have S:=S;rw [show MC l lo up n (.l1 0)=_ from S];cases hf:(List.range l.length).findSome? (fun i=>if ME lo up (l.getD i 0) then none else some (i:Int)) with
  | some r=>
   refine ⟨r,rfl,?_⟩;obtain ⟨i,hi,hr⟩:=z8 hf;have BM:i<l.length:=by simpa using hi
   split at hr
   ·cases hr
   ·rename_i hx;cases hr;refine ⟨fun _=>?_,fun _=>by omega⟩;unfold EO;rw [List.all_eq_false];exact ⟨l[i],yY BM,by simpa [BM] using hx⟩
  | none=>
   obtain ⟨m,hm⟩: ∃ m,n-l.length=m+1:=⟨n-l.length-1,by omega⟩;refine ⟨-1,by rw [hm];simp [MC,Wx],?_⟩;rw [zAa] at hf
   have:EO l lo up=true:=by
    unfold EO;rw [←bI (p:=ME lo up) (d:=(0:Int)),yJ];intro i hi;have:=hf i hi;cases hc:ME lo up (l.getD i 0) with
    | true=>rfl
    | false=>rw [hc] at this;simp at this
   simp [this]
 ·have h1:(i:Int)<(l.length:Int):=by omega
  have h2:=r64 hi hl;simp only [MC,Wx,U7,ZI,h1,h2,zt,yC,zp,zAx,zS,yB,ME];obtain ⟨x,hg⟩: ∃ y,l.getD i 0=y:=⟨_,rfl⟩;simp only [hg]
  by_cases a:x<lo
  ·have: ¬ lo<=x:=by omega
   simp [a,this]
  ·have a':lo<=x:=by omega
   by_cases b:up<x
   ·have: ¬ x<=up:=by omega
    simp [a,b,a',this]
   ·have b':x<=up:=by omega
    simp [a,b,a',b']
theorem SZ {l:List Int} {lo up:Int} {n:Nat} (hl:l.length<=LB) (hn:l.length<n):Ke n l lo up=some (EO l lo up):=by
 obtain ⟨r,h1,h2⟩:=qf (lo:=lo) (up:=up) hl hn;unfold Ke Vv Ua YS;rw [h1];cases hw:EO l lo up with
 | true=>
  have: ¬ 0<=r:=fun h=>by rw [h2.1 h] at hw;cases hw
  simp [this]
 | false=>
  have:0<=r:=h2.2 hw;simp [this]
theorem wP {l:List Int} {x:Int} {n:Nat} (hl:l.length<=LB) (hn:l.length<n):LG n l x=some (l.contains x):=by
 have: ∃ r:Int,Ta n l x=some r/\ (0<=r↔l.contains x=true):=by
  unfold Ta dQ;have S:=O9 (fun n i=>MD l x n (.l1 i)) l.length 0 (fun i=>if (x != l.getD i 0) then none else some (i:Int)) (fun n i _ hi=>?_) (n:=n) (by omega)
  ·rw [show MD l x n (.l1 0)=_ from S];cases hf:(List.range l.length).findSome? (fun i=>if (x != l.getD i 0) then none else some (i:Int)) with
   | some r=>
    refine ⟨r,rfl,?_⟩;obtain ⟨i,hi,hr⟩:=z8 hf;have BM:i<l.length:=by simpa using hi
    split at hr
    ·cases hr
    ·rename_i hx;cases hr;refine ⟨fun _=>?_,fun _=>by omega⟩;have:x=l[i]:=by simpa [BM] using hx
     rw [this];simp
   | none=>
    obtain ⟨m,hm⟩: ∃ m,n-l.length=m+1:=⟨n-l.length-1,by omega⟩;refine ⟨-1,by rw [hm];simp [MD,Wy],?_⟩;rw [zAa] at hf
    have:l.contains x=false:=by
     rw [zAW];intro h;obtain ⟨i,hi,e⟩:=zR (by simpa using h:x∈l);have:=hf i (by simpa using hi);simp [hi,e] at this
    rw [this];simp
  ·have h1:(i:Int)<(l.length:Int):=by omega
   have h2:=r64 hi hl;simp only [MD,Wy,h1,h2,zt,yC,zp,zAx,zS,yB];obtain ⟨y,hg⟩: ∃ y,l.getD i 0=y:=⟨_,rfl⟩;simp only [hg]
   by_cases a:x=y
   ·simp [a]
   ·have:(x==y)=false:=by simp [a]
    simp [this,a]
 obtain ⟨r,h1,h2⟩:=this;unfold LG YT;rw [h1]
 by_cases h:0<=r
 ·have:=h2.1 h;simp only [yF];rw [this];simp [h]
 ·have:l.contains x=false:=by rw [zAW];exact fun hc=>h (h2.2 hc)
  simp only [yF];rw [this];simp;omega
end Go.Proofs.YtgkhhfnhacibcaaGreatDoor
namespace Go.Proofs.YtgkhhfnhacibcaaGreatDoor
open Go.RowKit
def Ga (g:List (List Int)):Nat:=(g.map fun r=>r.length+2).sum
theorem U6: ∀ {g:List (List Int)} {r:List Int},r∈g -> r.length+2<=Ga g
 | [],_,h=>by cases h
 | a::g,r,h=>by
  simp only [Ga,zd,List.sum_cons];rcases yf.1 h with rfl | h
  ·omega
  ·have:=U6 h;unfold Ga at this;omega
theorem iX {g:List (List Int)} {v:Nat} (hv:v<g.length):Ga (g.drop v)=(g.getD v []).length+2+Ga (g.drop (v+1)):=by
 rw [ym hv];simp only [Ga,zd,List.sum_cons,u8,xy hv,zi]
theorem YA {g:List (List Int)} {v:Nat} (hv:v<g.length):g.getD v []∈g:=by
 rw [u8,xy hv];exact yY hv
section
variable {g:List (List Int)} {v j n:Nat}
theorem oQ {R:Type} (next OU:R) (c:Bool -> R) (hc:c true=next) (K0:c false=OU) (hv:v<g.length) (hj:j<(g.getD v []).length):
 (if Gk g v (g.getD v []) j then next else OU)=
  (if (g.getD v []).getD j 0<0 then OU else if (g.getD v []).getD j 0>=(g.length:Int) then OU else if (g.getD v []).getD j 0=(v:Int) then OU else
   if 0<j then (if (g.getD v []).getD (j-1) 0>=(g.getD v []).getD j 0 then OU else c ((g.getD ((g.getD v []).getD j 0).toNat []).contains (v:Int)))
   else c ((g.getD ((g.getD v []).getD j 0).toNat []).contains (v:Int))):=by
 unfold Gk;obtain ⟨x,hx⟩: ∃ x,(g.getD v []).getD j 0=x:=⟨_,rfl⟩;obtain ⟨y,hy⟩: ∃ y,(g.getD v []).getD (j-1) 0=y:=⟨_,rfl⟩;simp only [hx,hy]
 by_cases a:x<0
 ·have: ¬ 0<=x:=by omega
  simp [a,this]
 ·have a':0<=x:=by omega
  by_cases b:x>=(g.length:Int)
  ·have: ¬ x<(g.length:Int):=by omega
   simp [a,b,this]
  ·have b':x<(g.length:Int):=by omega
   by_cases d:x=(v:Int)
   ·simp [a,b,d]
   ·have d':(x != (v:Int))=true:=by simp [d]
    cases hcc:(g.getD x.toNat []).contains (v:Int) with
    | true=>
     by_cases e:0<j
     ·by_cases f:y>=x
      ·have: ¬ y<x:=by omega
       simp [a,b,d,d',e,f,this,a',b']
      ·have f':y<x:=by omega
       simp [a,b,d,d',e,f,f',a',b',hc]
     ·simp [a,b,d,d',e,a',b',hc]
    | false=>
     by_cases e:0<j
     ·by_cases f:y>=x
      ·have: ¬ y<x:=by omega
       simp [a,b,d,d',e,f,this,a',b']
      ·have f':y<x:=by omega
       simp [a,b,d,d',e,f,f',a',b',K0]
     ·simp [a,b,d,d',e,a',b',K0]
theorem nH {j len:Nat} (h:j<len) (hl:len<=LB):AH ((j:Int)-1):=by rw [Ax];unfold LB at hl;omega
theorem V4 {j len:Nat} (h:0<j) (h2:j<len):((0:Int)<=(j:Int)-1/\ (j:Int)-1<(len:Int))/\ ((j:Int)-1).toNat=j-1/\ (j:Int)>0:=by omega
theorem uv {self:OB -> Option Int} {row:List Int} (MJ:row=g.getD v []) (hv:v<g.length) (hg:g.length<=256) (hj:j<(g.getD v []).length) (hr: ∀ r∈g,r.length<=LB) (hn: ∀ r∈g,r.length<n):
 T8 n self g (v:Int) row (v:Int) row (row.length:Int) (j:Int)=(if Gk g v (g.getD v []) j then none else some (120:Int)).or (self (.l2 (v:Int) row (v:Int) row (row.length:Int) ((j:Int)+1))):=by
 subst MJ;have A3:=hr _ (YA hv);have h1:(v:Int)<(g.length:Int):=by omega
 have h2:(j:Int)<((g.getD v []).length:Int):=by omega
 have h3:=r64 hj A3;obtain ⟨NX,eT⟩: ∃ NX,self (.l2 (v:Int) (g.getD v []) (v:Int) (g.getD v []) ((g.getD v []).length:Int) ((j:Int)+1))=NX:=⟨_,rfl⟩;have key:=oQ (g:=g) (v:=v) (j:=j) NX (some (120:Int)) (fun b=>bif b then NX else some 120) rfl rfl hv hj
 have e1:((if Gk g v (g.getD v []) j then none else some (120:Int)).or NX)=(if Gk g v (g.getD v []) j then NX else some 120):=by
  cases Gk g v (g.getD v []) j <;> rfl
 rw [eT,e1,key];simp only [T8,h1,h2,h3,zt,yC,zp,zAx,zS,yB,eT];obtain ⟨x,hx⟩: ∃ x,(g.getD v []).getD j 0=x:=⟨_,rfl⟩;simp only [hx]
 by_cases a:x<0
 ·simp [a]
 by_cases b:x>=(g.length:Int)
 ·simp [a,b]
 by_cases d:x=(v:Int)
 ·simp [a,b,d]
 have d':(x==(v:Int))=false:=by simp [d]
 have Te:g.getD x.toNat []∈g:=YA (by omega);have hh:LG n (g.getD x.toNat []) (v:Int)=some ((g.getD x.toNat []).contains (v:Int)):=wP (hr _ Te) (hn _ Te);have HG:0<=x/\ x<(g.length:Int):=by omega
 have fin:((LG n (g.getD x.toNat []) (v:Int)).bind fun y1=>bif (!y1) then some (120:Int) else NX)=(bif (g.getD x.toNat []).contains (v:Int) then NX else some 120):=by
  rw [hh];cases (g.getD x.toNat []).contains (v:Int) <;> rfl
 by_cases e:0<j
 ·have h4:AH ((j:Int)-1)/\ ((0:Int)<=(j:Int)-1/\ (j:Int)-1<((g.getD v []).length:Int)):=⟨nH hj A3,(V4 e hj).1⟩;have h5:=(V4 e hj).2.1;have e':=(V4 e hj).2.2;simp only [e',h4,h5,e,HG,d',zt,yC,xx,zS,yA a,yA b,zAx,yK a,yK b,yK d,fin]
  by_cases f:(g.getD v []).getD (j-1) 0>=x
  ·simp only [f,zt,yC,zS]
  ·simp only [yA f,xx,yK f]
 ·have e': ¬ (j:Int)>0:=by omega
  simp only [HG,d',xx,zS,yA a,yA b,yA e',zAx,yK a,yK b,yK d,yK e,fin]
end
theorem mJ {g:List (List Int)} {v:Nat} (hv:v<g.length):((List.range' v (g.length-v)).all fun i=>IX g i (g.getD i []))=(IX g v (g.getD v [])&&(List.range' (v+1) (g.length-(v+1))).all fun i=>IX g i (g.getD i [])):=by
 have:g.length-v=g.length-(v+1)+1:=by omega
 rw [this,zA5,zA6]
theorem fI {g:List (List Int)} (hg:g.length<=256) (hr: ∀ r∈g,r.length<=LB): ∀ (k v n:Nat),v+k=g.length -> Ga (g.drop v)+Ga g+1<=n -> H8 g n (.l1 (v:Int))=some (Ez ((List.range' v (g.length-v)).all fun i=>IX g i (g.getD i [])) 120)
 | 0,v,n,hv,hn=>by
  have:v=g.length:=by omega
  subst this;obtain ⟨m,rfl⟩: ∃ m,n=m+1:=⟨n-1,by omega⟩;simp [H8,YC,Ez]
 | k+1,v,n,hv,hn=>by
  have Do:v<g.length:=by omega
  rw [iX Do] at hn;have hm:=U6 (YA Do);obtain ⟨m,rfl⟩: ∃ m,n=m+1:=⟨n-1,by omega⟩;have h1:(v:Int)<(g.length:Int):=by omega
  have e1:H8 g (m+1) (.l1 (v:Int))=H8 g m (.l2 (v:Int) (g.getD v []) (v:Int) (g.getD v []) ((g.getD v []).length:Int) 0):=by
   simp only [H8,YC,h1,zt,yC,zp,zAx,zS,yB]
  rw [e1];have S:=O9 (fun n i=>H8 g n (.l2 (v:Int) (g.getD v []) (v:Int) (g.getD v []) ((g.getD v []).length:Int) i)) (g.getD v []).length (Ga g) (fun j=>if Gk g v (g.getD v []) j then none else some 120) (fun n' j HK hj=>uv (n:=n') rfl Do hg hj hr fun r DC=>by have:=U6 DC;omega) (n:=m) (by omega);refine S.trans ?_;rw [fP,mJ Do];have eR:((List.range (g.getD v []).length).all fun i=>Gk g v (g.getD v []) i)=IX g v (g.getD v []):=rfl;rw [eR];cases IX g v (g.getD v []) with
  | false=>rfl
  | true=>
   obtain ⟨m',CH⟩: ∃ m',m-(g.getD v []).length=m'+1:=⟨m-(g.getD v []).length-1,by omega⟩;rw [CH];have h2:AH ((v:Int)+1):=by rw [Ax];omega
   have ih:=fI hg hr k (v+1) m' (by omega) (by omega);have h3: ¬ (((g.getD v []).length:Int)<((g.getD v []).length:Int)):=by omega
   simp only [zS,H8,T8,h2,yA h3,xx,y8];exact ih
theorem fH {g:List (List Int)} {n:Nat} (hr: ∀ r∈g,r.length<=LB) (hn:2*Ga g+1<=n):Qk n g=some (Ez (Jv g) 120):=by
 unfold Qk fG Jv
 by_cases h:(g.length:Int)>256
 ·have: ¬ g.length<=256:=by omega
  simp [h,this,Ez]
 ·have h':g.length<=256:=by omega
  have:=fI h' hr g.length 0 n (by omega) (by simp;omega);simp only [yA h,xx,yG h',y8];rw [zA9];simpa using this
end Go.Proofs.YtgkhhfnhacibcaaGreatDoor
namespace Go.Proofs.YtgkhhfnhacibcaaGreatDoor
open Go.RowKit
theorem bR {s:Int} (h1:1<=s) (h2:s<=16):IntKind.i64.wrap (1*2 ^ s.toNat)=2 ^ s.toNat/\ AH ((2:Int) ^ s.toNat-1)/\ ((0:Int)<=s/\ s<=((IntKind.i64.bits:Nat):Int)):=by
 obtain ⟨m,rfl⟩:=zAG (show 0<=s by omega);rw [yB];have h:m<17:=by omega
 refine ⟨?_,?_,by omega,by show (m:Int)<=64;omega⟩
 ·revert h;clear h1 h2;revert m;decide
 ·revert h;clear h1 h2;revert m;decide
section
variable {c:AB} {n:Nat}
def SR (sy:Int) (c:AB):Bool:=EO [c.set,c.other] 0 (2 ^ sy.toNat-1)&&EO [c.lo,c.hi] 0 65536&&decide (c.runs.length<=8)&&EO c.runs 1 256
theorem cj {a b:Int}:([a,b]:List Int).length<=LB:=by show 2<=LB;unfold LB;omega
theorem pm {l:List Int}:(decide (((l.length:Nat):Int)<=8))=decide (l.length<=8):=by rw [za];simp;omega
theorem vA {self:K6 -> Option Bool} {q:AA} (h1:1<=q.symbols) (h2:q.symbols<=16) (hr:c.runs.length<=LB) (hn:c.runs.length<n) (H2:2<n):UG n self q c=some (SR q.symbols c):=by
 obtain ⟨p1,p2,p3⟩:=bR h1 h2;unfold UG;rw [p1,xw ⟨p3,p2⟩,SZ cj (show 2<n from H2),SZ cj (show 2<n from H2),SZ hr hn];unfold SR;rw [pm];cases EO [c.set,c.other] 0 (2 ^ q.symbols.toNat-1) <;> cases EO [c.lo,c.hi] 0 65536 <;> cases decide (c.runs.length<=8) <;> rfl
theorem vC {self:K6 -> Option Bool} {q:AA} (hq:q.cells<=256) (hc:c.cells.length<=LB) {i:Nat} (hi:i<c.cells.length) {o:List Bool} (ho:o.length=256) (hm: ∀ x:Nat,x<256 -> o.getD x false=(c.cells.take i).contains (x:Int)):
 Qq n self q c (i:Int) o=if Mr q.cells c.kind c.cells i then self (.l1 ((i:Int)+1) (o.set (0+(c.cells.getD i 0).toNat) true)) else some false:=by
 have h1:(i:Int)<(c.cells.length:Int):=by omega
 have h2:=r64 hi hc;unfold Mr;obtain ⟨x,hx⟩: ∃ x,c.cells.getD i 0=x:=⟨_,rfl⟩;simp only [Qq,h1,h2,zt,yC,zp,zAx,zS,yB,hx]
 by_cases a:x<0
 ·have: ¬ 0<=x:=by omega
  simp [a,this]
 have a':0<=x:=by omega
 by_cases b:x>=q.cells
 ·have: ¬ x<q.cells:=by omega
  simp [a,b,this]
 have b':x<q.cells:=by omega
 have hg:((0:Int)<=x/\ x<((256:Nat):Int))/\ 0+x.toNat<o.length:=⟨⟨a',by omega⟩,by omega⟩
 have tT:o.getD (0+x.toNat) false=(c.cells.take i).contains x:=by
  rw [yU,hm x.toNat (by omega)]
  congr 1;omega
 simp only [hg,tT,yA a,yA b,xx,zS,yG a',yG b',y8,zAx];cases (c.cells.take i).contains x with
 | true=>rfl
 | false=>
  by_cases e:c.kind>=8
  ·have e':8<=c.kind:=e
   by_cases f:x=(i:Int)
   ·have f1:(x != (i:Int))=false:=by simp [f]
    have f2:(x==(i:Int))=true:=by simp [f]
    simp only [e,e',f1,f2,zt,yC,xx,zH,yw,zj,y8,zS]
   ·have f1:(x != (i:Int))=true:=by simp [f]
    have f2:(x==(i:Int))=false:=by simp [f]
    simp only [e,e',f1,f2,zt,yC,xx,zH,yw,zj,y8,yt,z7]
  ·have e': ¬ 8<=c.kind:=e;simp only [yA e,yA e',zt,xx,zH,Bool.true_or,Bool.and_self,zS]
theorem vB {self:K6 -> Option Bool} {q:AA} {o:List Bool}:Qq n self q c (c.cells.length:Int) o=if Fy q.cells c.kind c.cells.length then self .l2 else some false:=by
 have h1: ¬ ((c.cells.length:Int)<(c.cells.length:Int)):=by omega
 simp only [Qq,yA h1,xx]
 by_cases hk:1<=c.kind/\ c.kind<=9
 ·obtain ⟨k,d5⟩: ∃ k,c.kind=k:=⟨_,rfl⟩;rw [d5] at hk;simp only [d5];have e2:(((c.cells.length:Nat):Int) != 2)= !(c.cells.length==2):=by rw [za];simp;omega
  have e3:(((c.cells.length:Nat):Int) != q.cells)= !(((c.cells.length:Nat):Int)==q.cells):=rfl;rcases QF hk with h | h | h | h | h | h | h | h | h <;> subst h
  ·rfl
  ·rfl
  ·rfl
  ·rfl
  ·rfl
  ·show (bif (((c.cells.length:Nat):Int) != 2) then some false else self .l2)=_
   rw [e2];unfold Fy;cases c.cells.length==2 <;> rfl
  ·show (bif (((c.cells.length:Nat):Int) != 2) then some false else self .l2)=_
   rw [e2];unfold Fy;cases c.cells.length==2 <;> rfl
  ·show (bif (((c.cells.length:Nat):Int) != q.cells) then some false else self .l2)=_
   rw [e3];unfold Fy;cases ((c.cells.length:Nat):Int)==q.cells <;> rfl
  ·show (bif (((c.cells.length:Nat):Int) != q.cells) then some false else self .l2)=_
   rw [e3];unfold Fy;cases ((c.cells.length:Nat):Int)==q.cells <;> rfl
 ·have EE:Fy q.cells c.kind c.cells.length=false:=by
   rw [zAW];exact fun h=>hk (QD h)
  rw [EE];have z: ∀ m:Int,1<=m -> m<=9 -> (c.kind==m)=false:=fun m h1 h2=>by simp only [zI];omega
  simp [z 1,z 2,z 3,z 4,z 5,z 6,z 7,z 8,z 9]
theorem fN {q:AA} (hq:q.cells<=256) (hc:c.cells.length<=LB) (h1:1<=q.symbols) (h2:q.symbols<=16) (hr:c.runs.length<=LB): ∀ (k i n:Nat) (o:List Bool),i+k=c.cells.length -> k+c.runs.length+6<=n -> o.length=256 -> (∀ x:Nat,x<256 -> o.getD x false=(c.cells.take i).contains (x:Int)) ->
 OF q c n (.l1 (i:Int) o)=some ((List.range' i k).all (Mr q.cells c.kind c.cells)&&Fy q.cells c.kind c.cells.length&&SR q.symbols c)
 | 0,i,n,o,hi,hn,ho,hm=>by
  have:i=c.cells.length:=by omega
  subst this;obtain ⟨m,rfl⟩: ∃ m,n=m+1:=⟨n-1,by omega⟩;refine (vB (n:=m)).trans ?_;cases Fy q.cells c.kind c.cells.length with
  | false=>simp
  | true=>
   obtain ⟨m',rfl⟩: ∃ m',m=m'+1:=⟨m-1,by omega⟩
   show UG m' (OF q c m') q c=_
   rw [vA h1 h2 hr (by omega) (by omega)];simp
 | k+1,i,n,o,hi,hn,ho,hm=>by
  obtain ⟨m,rfl⟩: ∃ m,n=m+1:=⟨n-1,by omega⟩;refine (vC (n:=m) hq hc (show i<c.cells.length by omega) ho hm).trans ?_;rw [zA5,zA6];cases Tw:Mr q.cells c.kind c.cells i with
  | false=>simp
  | true=>
   have hx:0<=c.cells.getD i 0/\ c.cells.getD i 0<q.cells:=by
    unfold Mr at Tw;simp only [yD,yd] at Tw;exact ⟨Tw.1.1.1,Tw.1.1.2⟩
   have ih:=fN hq hc h1 h2 hr k (i+1) m (o.set (0+(c.cells.getD i 0).toNat) true) (by omega) (by omega) (by simp [ho]) (fun x rA=>?_)
   ·simp only [zS,y8];exact ih
   ·have BM:i<c.cells.length:=by omega
    rw [yU]
    have ht:c.cells.take (i+1)=c.cells.take i++[c.cells.getD i 0]:=by
     rw [List.take_add_one];simp [BM]
    rw [ht,List.contains_append,←hm x rA];rw [u8,yn]
    by_cases e:(c.cells.getD i 0).toNat=x
    ·have e2:((x:Nat):Int)=c.cells.getD i 0:=by omega
     rw [xw e,xw (by omega)];simp [e2]
    ·have e2: ¬ ((x:Nat):Int)=c.cells.getD i 0:=by omega
     rw [yK e]
     have e3:([c.cells.getD i 0].contains ((x:Nat):Int))=false:=by
      simp only [List.contains_cons,List.contains_nil,ze,zI];exact e2
     rw [e3,ze,u8]
theorem vE {q:AA} (hq:q.cells<=256) (hc:c.cells.length<=LB) (h1:1<=q.symbols) (h2:q.symbols<=16) (hr:c.runs.length<=LB) (hn:c.cells.length+c.runs.length+6<=n):UH n q c=some (Ed q c):=by
 unfold UH fO;have:=fN hq hc h1 h2 hr c.cells.length 0 n (List.replicate 256 false) (by omega) (by omega) yQ (fun x hx=>by rw [u8,zQ,xw hx];rfl);refine Eq.trans this ?_;rw [←zA9];unfold Ed Uk SR;simp only [Bool.and_assoc]
end
end Go.Proofs.YtgkhhfnhacibcaaGreatDoor
namespace Go.Proofs.YtgkhhfnhacibcaaGreatDoor
open Go.RowKit
section
variable {c:AB} {n:Nat} {cells sy:Int}
end
def Om (c:AB):Nat:=c.cells.length*(c.cells.length+2)+c.cells.length+c.runs.length+7
theorem i6 (c:AB):Om c=c.cells.length*(c.cells.length+2)+c.cells.length+c.runs.length+7:=rfl
def Hd (q:AA):Nat:=q.values.length+2*Ga q.nbrs+(q.cons.map Om).sum+q.cons.length+10
structure Ff (q:AA):Prop where
 values:q.values.length<=LB
 nbrs: ∀ r∈q.nbrs,r.length<=LB
 cells: ∀ c∈q.cons,c.cells.length<=LB
 runs: ∀ c∈q.cons,c.runs.length<=LB
theorem Z2: ∀ {l:List AB} {c:AB},c∈l -> Om c<=(l.map Om).sum
 | [],_,h=>by cases h
 | a::l,c,h=>by
  rw [zd,List.sum_cons];rcases yf.1 h with rfl | h
  ·omega
  ·have:=Z2 h;omega
section
variable {q:AA} {n:Nat}
theorem vV {b:Bool}:(Ez b 120==0)=b:=by cases b <;> rfl
theorem ij (hF:Ff q) (h1:1<=q.cells) (h2:q.cells<=256) (h3:1<=q.symbols) (h4:q.symbols<=16) (h5:q.cons.length<=4096) (hn:Hd q<=n): ∃ r:Int,TU n q.cons q=some r/\ (0<=r↔q.cons.all (Ed q)=false):=by
 unfold TU dM;have S:=O9 (fun n i=>Kp q.cons q n (.l1 i)) q.cons.length (q.cons.map Om).sum (fun i=>if Ed q (q.cons.getD i default) then none else some (i:Int)) (fun n i HK hi=>?_) (n:=n) (by unfold Hd at hn;omega)
 ·rw [show Kp q.cons q n (.l1 0)=_ from S];cases hf:(List.range q.cons.length).findSome? (fun i=>if Ed q (q.cons.getD i default) then none else some (i:Int)) with
  | some r=>
   refine ⟨r,rfl,?_⟩;obtain ⟨i,hi,hr⟩:=z8 hf;have BM:i<q.cons.length:=by simpa using hi
   split at hr
   ·cases hr
   ·rename_i hx;cases hr;refine ⟨fun _=>?_,fun _=>by omega⟩;rw [List.all_eq_false];exact ⟨q.cons[i],yY BM,by simpa [BM] using hx⟩
  | none=>
   obtain ⟨m,hm⟩: ∃ m,n-q.cons.length=m+1:=⟨n-q.cons.length-1,by unfold Hd at hn;omega⟩;refine ⟨-1,by rw [hm];simp [Kp,TS],?_⟩;rw [zAa] at hf
   have:q.cons.all (Ed q)=true:=by
    rw [←bI (p:=Ed q) (d:=(default:AB)),yJ];intro i hi;have:=hf i hi;cases hc:Ed q (q.cons.getD i default) with
    | true=>rfl
    | false=>rw [hc] at this;simp at this
   simp [this]
 ·have AU:(i:Int)<(q.cons.length:Int):=by omega
  have hR:AH ((i:Int)+1):=by rw [Ax];omega
  have DS:q.cons.getD i default∈q.cons:=by rw [u8,xy hi];exact yY hi
  have A9:=Z2 DS;have tz:=vE (n:=n) h2 (hF.cells _ DS) h3 h4 (hF.runs _ DS) (by rw [i6 (q.cons.getD i default)] at A9;omega)
  show TS n (Kp q.cons q n) q.cons q (i:Int)=_
  generalize Kp q.cons q n=self
  simp only [TS,Rf,VE,AU,hR,zt,yC,zp,zAx,zS,yB,tz,yF];cases Ed q (q.cons.getD i default) <;> rfl
theorem VB (hF:Ff q) (hn:Hd q<=n):valid n q=some (Ez (Dh q) 191):=by
 unfold valid ZK Dh;have hv:=SZ (lo:=0) (up:=99) hF.values (show q.values.length<n by unfold Hd at hn;omega);have hg:=fH hF.nbrs (show 2*Ga q.nbrs+1<=n by unfold Hd at hn;omega)
 by_cases c1:q.cells<1
 ·have: ¬ 1<=q.cells:=by omega
  simp [c1,this,Ez]
 have gN:1<=q.cells:=by omega
 by_cases c2:q.cells>256
 ·have: ¬ q.cells<=256:=by omega
  simp [c1,c2,this,Ez]
 have gH:q.cells<=256:=by omega
 by_cases c3:q.symbols<1
 ·have: ¬ 1<=q.symbols:=by omega
  simp [c1,c2,c3,this,Ez]
 have gG:1<=q.symbols:=by omega
 by_cases c4:q.symbols>16
 ·have: ¬ q.symbols<=16:=by omega
  simp [c1,c2,c3,c4,this,Ez]
 have gF:q.symbols<=16:=by omega
 simp only [yA c1,yA c2,yA c3,yA c4,yG gN,yG gH,yG gG,yG gF,xx,y8,hv,hg,yF,bne,vV];cases ((q.values.length:Nat):Int)==q.symbols with
 | false=>rfl
 | true=>
 cases EO q.values 0 99 with
 | false=>rfl
 | true=>
 cases ((q.nbrs.length:Nat):Int)==q.cells with
 | false=>rfl
 | true=>
 cases Jv q.nbrs with
 | false=>rfl
 | true=>
 by_cases c5:((q.cons.length:Nat):Int)>4096
 ·have: ¬ q.cons.length<=4096:=by omega
  simp [c5,this,Ez]
 have gE:q.cons.length<=4096:=by omega
 obtain ⟨r,r1,r2⟩:=ij hF gN gH gG gF gE hn;simp only [UZ,YQ,r1,yA c5,yG gE,yF,xx,y8,yw,vU,beq_self_eq_true];cases ha:q.cons.all (Ed q) with
 | false=>
  have:r>=0:=r2.2 ha;simp [this,Ez]
 | true=>
  have: ¬ r>=0:=fun h=>by rw [r2.1 h] at ha;cases ha
  simp [this,Ez]
theorem ov {k:Int} (h:1<=k/\ k<=9):([0,1,1,2,2,3,1,1,4,4]:List Int).getD k.toNat 0=Wb k:=by
 rcases QF h with h | h | h | h | h | h | h | h | h <;> subst h <;> rfl
theorem qG (hv:Dh q=true) {i:Int} (h0:0<=i) (hi:i<(q.cons.length:Int)):1<=(q.cons.getD i.toNat default).kind/\ (q.cons.getD i.toNat default).kind<=9:=by
 have BM:i.toNat<q.cons.length:=by omega
 have DS:q.cons.getD i.toNat default∈q.cons:=by rw [u8,xy BM];exact yY BM
 exact QD (cy ((Hc hv).2.2.2.2.2 _ DS))
theorem pi (hF:Ff q) (hn:Hd q<=n) (i:Int):L8 n q i=some (Im q i):=by
 unfold L8 Wh Im;rw [VB hF hn];cases hv:Dh q with
 | false=>rfl
 | true=>
  by_cases h0:i<0
  ·have: ¬ (0<=i/\ i<(q.cons.length:Int)):=by omega
   simp [Ez,h0,this]
  ·by_cases hi:i>=(q.cons.length:Int)
   ·have: ¬ (0<=i/\ i<(q.cons.length:Int)):=by omega
    simp [Ez,h0,hi,this]
   ·have hc:0<=i/\ i<(q.cons.length:Int):=by omega
    have hk:=qG hv hc.1 hc.2;have hg:(0<=i/\ i<(q.cons.length:Int))/\ (0<=(q.cons.getD i.toNat default).kind/\ (q.cons.getD i.toNat default).kind<((10:Nat):Int)):=⟨hc,by omega,by omega⟩;simp only [Ez,zS,yF,zAV,xx,yA h0,yA hi,xw hg,xw hc,ov hk,Bool.true_eq_false,z7]
theorem vO (hn:q.cons.length<n): ∃ b,UN n q=some b:=by
 unfold UN fS
 have loop:q.cons.length<=120 -> ∃ b,Jw q n (.l1 0)=some b:=fun hl=>by
  have S:=O9 (fun n i=>Jw q n (.l1 i)) q.cons.length 0 (fun i=>if (!(decide (((q.cons.getD i default).cells.length:Int)>20))&&!(decide (((q.cons.getD i default).runs.length:Int)>10))) then none else some false) (fun n i _ hi=>?_) (n:=n) (by omega)
  ·rw [show Jw q n (.l1 0)=_ from S];rw [fP];split
   ·obtain ⟨m,hm⟩: ∃ m,n-q.cons.length=m+1:=⟨n-q.cons.length-1,by omega⟩;exact ⟨true,by rw [hm];simp [Jw,UL]⟩
   ·exact ⟨false,rfl⟩
  ·have AU:(i:Int)<(q.cons.length:Int):=by omega
   have hR:AH ((i:Int)+1):=by rw [Ax];omega
   show UL n (Jw q n) q (i:Int)=_
   generalize Jw q n=self
   simp only [UL,AU,hR,zt,yC,zp,zAx,zS,yB];cases decide (((q.cons.getD i default).cells.length:Int)>20) <;> cases decide (((q.cons.getD i default).runs.length:Int)>10) <;> rfl
 cases decide (q.cells>16) with
 | true=>exact ⟨_,rfl⟩
 | false=>
 cases decide (q.symbols>6) with
 | true=>exact ⟨_,rfl⟩
 | false=>
 cases decide (((q.values.length:Nat):Int)>8) with
 | true=>exact ⟨_,rfl⟩
 | false=>
 cases decide (((q.nbrs.length:Nat):Int)>20) with
 | true=>exact ⟨_,rfl⟩
 | false=>
 by_cases h:((q.cons.length:Nat):Int)>120
 ·rw [yG h];exact ⟨_,rfl⟩
 ·rw [yA h];exact loop (by omega)
theorem vM {pos:List Int} (hn:q.cons.length<n): ∃ b,OG n q pos=some b:=by
 obtain ⟨b,hb⟩:=vO hn;unfold OG YF;rw [hb];cases b
 ·exact ⟨_,rfl⟩
 ·exact ⟨_,rfl⟩
end
end Go.Proofs.YtgkhhfnhacibcaaGreatDoor
namespace Go.Proofs.YtgkhhfnhacibcaaGreatDoor
abbrev zAb:=@BitVec.ofInt_natCast
abbrev zBD:=@Go.Lib.hid
end Go.Proofs.YtgkhhfnhacibcaaGreatDoor
namespace Go.Proofs.YtgkhhfnhacibcaaGreatDoor
open Go.RowKit
theorem io (x k W5:Nat) (w:World) (Fb:((x:Int)==0)=false)
 (key:IntKind.u64.wrap (bits BinOp.and IntKind.u64 (x:Int) (IntKind.u64.wrap (-(x:Int)))*285870213051353865)/288230376151711744=(W5:Int))
 (hi:W5<64) (hk:k<64) (Cm:w.cell? ⟨1,W5,none⟩=some (.int .u8 k)):
 Calls Tryz.prog 129 #[.int .u64 x] w fun e w'=>e= .returned (.int .i64 k)/\ w=w':=by
 go_enter Tryz.func129,Tryz.ntmps129
 go_wp2_with (simp only [key])
 go_ret
 exact ⟨rfl,rfl⟩
theorem ip (x:Nat) (hx:x<18446744073709551616) (Fb:x≠0) (w:World) (hT:LM w):
 Calls Tryz.prog 129 #[.int .u64 x] w fun e w'=>e= .returned (.int .i64 (Lib.ctz 64 x))/\ w=w':=by
 obtain ⟨Tp,hk⟩:=Lib.lowest_bit 64 x Fb hx;obtain ⟨hi,rK⟩:=Lib.deBruijn64_at _ hk;have Cm:=hT _ hi;rw [rK] at Cm;exact io x _ _ w (by simp;omega) (tz64_key x _ hx Fb Tp) hi hk Cm
theorem im (x:Nat) (hx:x<18446744073709551616) (Fb:x≠0) (w:World) (hT:LM w):
 Calls Tryz.prog 111 #[.int .u64 x] w fun e w'=>e= .returned (.int .i64 (Lib.ctz 64 x))/\ w=w':=by
 have h1:=ip x hx Fb w hT
 go_enter Tryz.func111,Tryz.ntmps111
 go_wp2_with (go_at_call 129;refine h1.mono ?_;rintro e w' ⟨rfl,rfl⟩)
 go_ret
 exact ⟨rfl,rfl⟩
def Em (x:Nat):List Nat:=(List.range 64).filter fun s=>x.testBit s
theorem i7:Em 0= []:=by simp [Em]
theorem ow (k m s:Nat):(2 ^ k*(2*m+1)).testBit s=(decide (k<=s)&&(2*m+1).testBit (s-k)):=by
 rw [zq,Nat.testBit_mul_two_pow]
theorem n8 (m s:Nat):(2*m+1).testBit s=(decide (s=0)||(2*m).testBit s):=by
 cases s with
 | zero=>simp [Nat.testBit_zero]
 | succ s=>simp [Nat.testBit_succ];congr 1;omega
theorem nE: ∀ k,k<64 -> List.range 64=List.range k++k::List.range' (k+1) (63-k):=by decide+kernel
theorem i8 (x:Nat) (hx:x<18446744073709551616) (Fb:x≠0):Em x=Lib.ctz 64 x::Em (x&&& (x-1)):=by
 have hc:Lib.ctz 64 x=Lib.ctzFrom 64 x:=by simp [Lib.ctz,Fb]
 obtain ⟨m,hm,hk⟩:=Lib.ctzFrom_spec 64 x (by omega) (by simpa using hx);rw [hc]
 generalize Lib.ctzFrom 64 x=k at*
 have hb: ∀ s,x.testBit s=(decide (k<=s)&&(decide (s-k=0)||(2*m).testBit (s-k))):=fun s=>by rw [hm,ow,n8]
 have hy: ∀ s,(x&&& (x-1)).testBit s=(x.testBit s&&decide (s≠k)):=by
  intro s;have hp:0<2 ^ k:=Nat.two_pow_pos k
  have Jm:x-1=2 ^ k*(2*m)+(2 ^ k-1):=by
   rw [hm,Nat.mul_add,yz];omega
  have eP:(x-1).testBit s=if s<k then (2 ^ k-1).testBit s else (2*m).testBit (s-k):=by
   rw [Jm,Nat.testBit_two_pow_mul_add _ (by omega)]
  rw [Nat.testBit_and,eP,hb]
  by_cases h1:s<k
  ·rw [yA (by omega: ¬ k<=s)];simp
  ·rw [yK h1]
   by_cases h2:s=k
   ·subst h2;simp
   ·rw [yG (by omega:k<=s),yA (by omega: ¬ s-k=0)];simp [h2]
 unfold Em;have hr:List.range 64=List.range k++k::List.range' (k+1) (63-k):=nE k hk;rw [hr];simp only [List.filter_append,List.filter_cons]
 have h1: ∀ y:Nat,(∀ s,s<k -> y.testBit s=false) -> (List.range k).filter (fun s=>y.testBit s)= []:=fun y h=>by
  rw [List.filter_eq_nil_iff];intro s hs;simp [h s (yR.1 hs)]
 rw [h1 x (fun s hs=>by rw [hb];simp;omega),h1 (x&&& (x-1)) (fun s hs=>by rw [hy,hb];simp;omega)];have h2:x.testBit k=true:=by rw [hb];simp
 have h3:(x&&& (x-1)).testBit k=false:=by rw [hy];simp
 simp only [h2,h3,zW,zS,yt,z7]
 congr 1
 apply List.filter_congr;intro s hs;rw [hy];have:=List.mem_range'_1.1 hs;simp;omega
theorem xX (x:Nat) (hx:x<9223372036854775808) (Fb:x≠0):bits .and .i64 (x:Int) ((x:Int)-1)=((x&&& (x-1):Nat):Int):=by
 have e:((x:Int)-1)=((x-1:Nat):Int):=by omega
 have AU:x&&& (x-1)<=x:=Nat.and_le_left;rw [e]
 have h1:(BitVec.ofInt 64 (x:Int)).toNat=x:=by
  rw [zAb,BitVec.toNat_ofNat];exact zAD (by omega)
 have h2:(BitVec.ofInt 64 ((x-1:Nat):Int)).toNat=x-1:=by
  rw [zAb,BitVec.toNat_ofNat];exact zAD (by omega)
 show IntKind.i64.wrap ((BitVec.ofInt 64 (x:Int)&&& BitVec.ofInt 64 ((x-1:Nat):Int)).toNat:Int)=_
 rw [BitVec.toNat_and,h1,h2];have hm:((x&&& (x-1):Nat):Int) % 2 ^ 64=((x&&& (x-1):Nat):Int):=by omega
 simp only [IntKind.wrap,IntKind.signed,IntKind.bits,hm];rw [yK (by rw [y8,yd];omega)]
def aP (w:World) (b o:Nat):Nat:=match w.cell? ⟨b,o,none⟩ with
 | some (.int _ x)=>x.toNat
 | _=>0
def Rp (s:Nat):Array Value:=#[.int .i64 s]
set_option maxRecDepth 100000 in
set_option maxHeartbeats 4000000 in
theorem jA (set b o:Nat) (w:World) (rT:set<9223372036854775808) (hT:LM w) (hb:w.cell? ⟨b,o,none⟩=some (.int .i64 set)) (GP:w.frozen? ⟨b,o,none⟩=false) (uM:b≠1):
 IM Tryz.prog 110 #[.pointer (some ⟨b,o,none⟩)] ((Em set).map Rp) (fun k=>k=b) (fun k=>k=1) w:=by
 intro l J Jx G W hJ hJx hU hG X3 hY h0;have HY:=zBD hY;clear hY;have X4:G b:=hG b rfl;have uO:W.cell? ⟨b,o,none⟩=some (.int .i64 set):=hU.cell (fun h=>h (.inl rfl)) hb
 have t7:W.frozen? ⟨b,o,none⟩=false:=by
  rw [World.frozen?_of_block (hU.block b (zY w _ hb) (fun h=>h (.inl rfl)))];exact GP
 have uS:LM W:=fun j hj=>hU.cell (fun h=>h (.inr rfl)) (hT j hj)
 refine callsIn_of_wp Tryz.func110 rfl trivial ?_ rfl;simp only [Tryz.ntmps110,zAv,zB,zD,Nat.reduceAdd,Nat.reduceSub,Array.replicate_succ,Array.replicate_zero,List.push_toArray,List.append_toArray,zW,List.cons_append]
 gi_wp2
 gi_loopw [3,4,5,6,7,8,9,10,11,12,13,14] (fun _ _ _ _ _ _ _ _ _ _ _ _ wr=>∃ (i x:Nat),W.heap.size<=wr.heap.size/\ x<9223372036854775808/\ i<=(Em set).length/\ Hid ((Em set).drop i=Em x)/\ Hid (J i G wr)/\ wr.cell? ⟨b,o,none⟩=some (.int .i64 x)/\ wr.frozen? ⟨b,o,none⟩=false/\ Hid (LM wr))
  (fun _ _ _ _ _ _ _ _ _ _ _ _ wr=>aP wr b o)
 case atStart=>exact ⟨0,set,yS _,rT,zU _,zBD rfl,zBD h0,uO,t7,zBD uS⟩
 case round=>
  obtain ⟨i,x,A9,hx,EG,hd,hj,hc,hf,ht⟩:=hrel
  by_cases Fb:x=0
  ·subst Fb
   have EH:i=(Em set).length:=by
    have:=congrArg List.length hd.out;rw [zA3,i7,zD] at this;omega
   gi_wp2
   go_end0
   exact ⟨⟨_,rfl⟩,.inl ⟨G,EH▸hj.out⟩⟩
  ·have N0:((x:Int)==0)=false:=by simp [Fb]
   have MW:(Em set).drop i=Lib.ctz 64 x::Em (x&&& (x-1)):=by rw [hd.out,i8 x (by omega) Fb]
   have EH:i<(Em set).length:=by
    rcases zb i (Em set).length with h | h
    ·exact h
    ·rw [zJ h] at MW;cases MW
   have tq:(Em set)[i]=Lib.ctz 64 x:=by
    have:=ym EH;rw [MW] at this;injection this with h1 h2;exact h1.symm
   obtain ⟨fn,tmps,gq,body,hy,hR⟩:=HY.out i (Rp (Lib.ctz 64 x)) G wr (by rw [ye,xy EH,tq];rfl) hj.out;have uU:=zBD hR;clear hR;unfold Rp at hy;have rJ:=zBD (im x (by omega) Fb wr ht.out);have uF:=zBD MW;clear MW hd
   gi_wp2_with (first | refine ⟨trivial,rfl,?_⟩ | (gi_at_call 111;refine (callsIn_wide.2 rJ.out).mono ?_;rintro e w' ⟨rfl,rfl⟩))
   refine ⟨rfl,uU.out.mono ?_⟩;rintro e W1 ⟨Hy,(⟨rfl,tn⟩ | ⟨rfl,Jm⟩)⟩
   ·have uL:W1.cell? ⟨b,o,none⟩=some (.int .i64 x):=Hy.cell (fun h=>h (.inl X4)) hc
    have t8:W1.frozen? ⟨b,o,none⟩=false:=by
     rw [World.frozen?_of_block (Hy.block b (zY wr _ hc) (fun h=>h (.inl X4)))];exact hf
    have dX:LM W1:=fun j hj=>Hy.cell (fun h=>h (.inr rfl)) (ht.out j hj)
    have CU:AP G W1 (W1.setCell ⟨b,o,none⟩ (.int .i64 ((x&&& (x-1):Nat):Int))):=(AP.refl G W1).setCell (fun _=>X4) _;have dZ:=yO A9 (yO Hy.size CU.size);have GO:=zBD (hJ _ _ _ _ _ tn CU (fun k h=>.inl h) (fun k h=>yM (X3 k h) dZ))
    have rL:Hid (LM (W1.setCell ⟨b,o,none⟩ (.int .i64 ((x&&& (x-1):Nat):Int)))):=zBD fun j hj=>
     ((AP.refl (fun k=>k=b) W1).setCell (fun _=>rfl) _).cell (fun e=>uM e.symm) (dX j hj)
    have AU:x&&& (x-1)<x:=Nat.lt_of_le_of_lt Nat.and_le_right (by omega);clear CU dX
    gi_wp2
    rw [xX x hx Fb];have K0:(W1.setCell ⟨b,o,none⟩ (.int .i64 ((x&&& (x-1):Nat):Int))).cell? ⟨b,o,none⟩=some (.int .i64 ((x&&& (x-1):Nat):Int)):=World.cell?_setCell_same' W1 _ _ (by rw [uL];rfl);refine ⟨⟨_,_,_,_,_,_,_,_,_,_,_,_,⟨i+1,x&&& (x-1),dZ,by omega,EH,zBD ?_,GO,K0,?_,rL⟩,rfl⟩,?_⟩
    ·rw [←List.drop_drop,uF.out];rfl
    ·rw [World.frozen?_setCell];exact t8
    ·unfold aP;rw [K0,hc]
     show ((x&&& (x-1):Nat):Int).toNat<(x:Int).toNat
     omega
   ·gi_wp2
    refine bodyPost_ret (results_none rfl _ _ _) rfl ?_;exact ⟨⟨_,rfl⟩,.inr ⟨G,Jm⟩⟩
def Bg (x:Int):List Int:=(Em x.toNat).map fun (s:Nat)=>(s:Int)
theorem vg (x:Int):(Bg x).map BK=(Em x.toNat).map Rp:=by
 unfold Bg;rw [List.map_map];rfl
theorem i9 {x:Int} (hx:(0:Int)<=x/\ x<9223372036854775808) (w:World) (b o:Nat) (u:Value) (hg:GG.gi w) (GN:GG.ng<=b) (hb: ∃ cs t,w.heap[b]? =some (.cells cs t (0,0))) (hc:w.cell? ⟨b,o,none⟩=some u) (hr:u= .int .i64 x):
 IM Tryz.prog 110 #[.pointer (some ⟨b,o,none⟩)] ((Bg x).map BK) (fun k=>k=b) (fun k=>k=1) w:=by
 rw [vg];obtain ⟨cs,t,hb⟩:=hb;have GN:2<=b:=GN;refine jA x.toNat b o w (by omega) hg.1 ?_ ?_ (by omega)
 ·rw [hc,hr];congr 2;omega
 ·unfold World.frozen?;simp [hb]
end Go.Proofs.YtgkhhfnhacibcaaGreatDoor
namespace Go.Proofs.YtgkhhfnhacibcaaGreatDoor
open Go.RowKit
theorem ES.iterOf {P:Program} {Γ:BB} {f gf:Nat} {ds:List DV} {c:Nat -> DV} {d:DV} {encs:List (Array Value)} {Rd:Nat -> Prop} (h0:ES P Γ f ds [] (.fn gf 1 c) [some (.cells [d])] true) (hc:c 0= .ref 0 0) (FH:ds.all Gj=true)
 (eg: ∀ args W,(callFunc gf args).run P W= .ok (.enter gf args) W)
 (px: ∀ (w:World) (b o:Nat) (u:Value),Γ.gi w -> Γ.ng<=b -> (∃ cs t,w.heap[b]? =some (.cells cs t (0,0))) -> w.cell? ⟨b,o,none⟩=some u -> AO (fun _=>False) w d [] u -> IM P gf #[.pointer (some ⟨b,o,none⟩)] encs (fun k=>k=b) Rd w)
 (hd:NT d=true) (Iu: ∀ b,Rd b -> b<Γ.ng) (h:DH):ES P Γ f ds h (.it h.length) (h++[some (.iter encs)]) true:=by
 refine ⟨h0.1,fun N ρ w args HR Ce=>?_⟩;refine (h0.2 (MS N h ρ) [] w args (Nr (fun b hb=>HR.lt2 hb) HR.gi) ⟨Ce.1,fun i hi=>?_⟩).mono ?_
 ·have hx:=NW (yJ.1 FH (ds.getD i .any) (by simp [hi]));exact AO.out _ (DZ (fun b hb=>M3.1 hb) []) (hx _ _ _ _ (Ce.2 i hi))
 ·rintro e w' ⟨v,rfl,⟨⟨ρ',g1,g2,g3,g4⟩,g5⟩⟩;have hE:=g5 rfl;obtain ⟨p,hp,Cv⟩:=g1.obj 0 _ rfl;have Cv:Ai w' p 1 _:=Cv;have hf: ∀ b,p.foot b -> w.heap.size<=b:=fun b hb=>(g3.grow b ⟨0,_,p,rfl,hp,hb⟩).resolve_left fun ⟨k,o',p',q1,_⟩=>by simp at q1
  obtain ⟨lb,hv,hl,Ts⟩:=g2;obtain ⟨u,hu,hr⟩:=Ts 0 (by omega);rw [hc] at hr;obtain ⟨p',BJ,HI⟩:=hr;have ep:p'=p:=yH (BJ.symm.trans hp);subst ep
  have tZ:lb= #[.pointer (some ⟨p'.blk,p'.off,none⟩)]:=by
   apply Array.ext
   ·simp [hl]
   ·intro i h1 h2;have:i=0:=by omega
    subst this;have:=xz.1 hu;obtain ⟨_,e⟩:=this;rw [e,HI];rfl
  subst tZ;obtain ⟨u2,c1,c2⟩:=Ai.cell Cv (j:=0) (by omega);have Ea:p'.foot=fun b=>b=p'.blk:=Cv.1
  have GN:Γ.ng<=w.heap.size:=Γ.lo _ HR.gi;have Cm:=g1.cel 0 _ p' p'.blk rfl hp (by rw [Ea]);refine ⟨v,rfl,⟨⟨ρ++[{ p' with val:=v }],HR.snoc hE (fun b hb=>⟨hf b hb,(g1.cel 0 _ p' b rfl hp hb).2.2⟩) ?_,⟨{ p' with val:=v },by rw [←HR.len];simp,rfl⟩,BN.snoc HR hE hf,fun _ _ h=>D5 h⟩,g5⟩⟩;obtain ⟨_,cs,t,C6,_⟩:=Cv;refine ⟨gf,_,Rd,⟨hv,eg⟩,?_,fun b hb=>?_,fun b hb=>?_⟩
  ·show IM P gf _ encs p'.foot Rd w'
   rw [Ea];refine px w' _ _ u2 g1.gi Cm.1 ⟨cs,t,C6⟩ (by simpa using c1) ?_;exact AO.out _ (DZ (fun b hb=>hb.elim) []) (V5 hd c2)
  ·have Cd:=Iu b hb;refine ⟨fun hm=>?_,yM (yM Cd GN) hE.size⟩;rcases hm with hm | hm
   ·have:=(HR.nlt b hm).2;omega
   ·rcases MO.snoc HR hm with hm | hm
    ·have:=HR.low hm;omega
    ·have:=hf b hm;omega
  ·obtain ⟨_,_,c,t,z,h4⟩:=g1.cel 0 _ p' b rfl hp hb;exact (xz.1 h4).1
end Go.Proofs.YtgkhhfnhacibcaaGreatDoor
namespace Go.Proofs.YtgkhhfnhacibcaaGreatDoor
open Go.RowKit
set_option maxRecDepth 100000
set_option maxHeartbeats 40000000
inductive UU where
 | l1 (x7:Int)
def Q3 (n:Nat) (self:UU -> Option Bool) (sets:List Int) (x7:Int):Option Bool:=
 bif (decide (x7<(sets.length:Int))) then
  if 0<=x7/\ x7<(sets.length:Int) then
   bif ((sets.getD ((x7).toNat) 0)==0) then
    some true
   else
    if AH (x7+1) then
     self (.l1 (x7+1))
    else none
  else none
 else
  some false
def fq (n:Nat) (self:UU -> Option Bool) (sets:List Int):Option Bool:=
 self (.l1 0)
def ON (sets:List Int):Nat -> UU -> Option Bool
 | 0,_=>none
 | n+1,.l1 x7=>Q3 n (ON sets n) sets x7
def UV (n:Nat) (sets:List Int):Option Bool:=fq n (ON sets n) sets
def v6 (n B:Nat) (N:Yd 0) (sets:List Int) (r:Bool):UU -> Prop
 | .l1 x7=>∀ m0:Nat,n<=m0 -> TW B N (FQ Tryz.f59 0 (.bool r) []) (A2 m0 (BA (AX Tryz.f59) 0 [])) ⟨AM 14 [(5,.ints sets),(6,.i (sets.length:Int)),(7,.i x7)],[]⟩
theorem v7 (B:Nat) (N:Yd 0) (sets:List Int):Al (ON sets) (v6 · B N sets):=ia (fun _=>rfl) fun n AG pt r h=>by
 cases pt
 case l1 x7=>
  intro m0 AC;refine rd AC fun m0 AC=>?_
  revert r;apply gO;exact bi 8 (gi (bi 12 (lE AE [2] []) (gw 13 (lG AE [] (AG _ _ · m0 AC))))) (lE AE [2] [])
theorem vw {n:Nat} {sets:List Int} {r:Bool} (h:UV n sets=some r):EQ 59 [.ints sets] [] (.bool r) [] true:=by
 refine ot Tryz.func59 fun B N=>?_
 revert r;apply gO;exact lN AE [] ((v7 B N sets n) _ _ · n Nat.le.refl)
def Wr (n:Nat) (pos:List Int):Option Bool:=
 (UV n pos).bind fun y1=>
  some y1
def Jj (n:Nat) (pos:List Int):Option Bool:=Wr n pos
theorem Wq {n:Nat} {pos:List Int} {r:Bool} (h:Jj n pos=some r):EQ 27 [.ints pos] [] (.bool r) [] true:=by
 unfold Jj Wr at h;refine ot Tryz.func27 fun B N=>?_
 revert r;apply gO;exact cf vw [] fun _=>lE AE [2] []
inductive Sf where
 | l1 (x20:Int)
def Pe (n:Nat) (self:Sf -> Option Int) (q:AA) (pos:List Int) (x20:Int):Option Int:=
 bif (decide (x20<(pos.length:Int))) then
  if 0<=x20/\ x20<(pos.length:Int) then
   bif (decide ((pos.getD ((x20).toNat) 0)<0)) then
    some 250
   else
    if 0<=q.symbols/\ q.symbols<=(IntKind.i64.bits:Int) then
     bif (decide ((pos.getD ((x20).toNat) 0)>=(IntKind.i64.wrap (1*2 ^ (q.symbols).toNat)))) then
      some 250
     else
      if AH (x20+1) then
       self (.l1 (x20+1))
      else none
    else none
  else none
 else
  some 0
def bV (n:Nat) (self:Sf -> Option Int) (q:AA) (pos:List Int):Option Int:=
 (valid n q).bind fun y1=>
  bif (y1 != 0) then
   some y1
  else
   bif ((pos.length:Int) != q.cells) then
    some 250
   else
    self (.l1 0)
def Lr (q:AA) (pos:List Int):Nat -> Sf -> Option Int
 | 0,_=>none
 | n+1,.l1 x20=>Pe n (Lr q pos n) q pos x20
def Sh (n:Nat) (q:AA) (pos:List Int):Option Int:=bV n (Lr q pos n) q pos
def nZ (n B:Nat) (N:Yd 0) (q:AA) (pos:List Int) (r:Int):Sf -> Prop
 | .l1 x20=>∀ m0:Nat,n<=m0 -> TW B N (FQ Tryz.f37 0 (.i r) []) (A2 m0 (BA (AX Tryz.f37) 0 [])) ⟨AM 34 [(2,.ref 0 0),(18,.ints pos),(19,.i (pos.length:Int)),(20,.i x20)],[some (.cells (AD q))]⟩
theorem na (B:Nat) (N:Yd 0) (q:AA) (pos:List Int):Al (Lr q pos) (nZ · B N q pos):=ia (fun _=>rfl) fun n AG pt r h=>by
 cases pt
 case l1 x20=>
  intro m0 AC;refine rd AC fun m0 AC=>?_
  revert r;apply gO;exact bi 21 (gi (bi 25 (lE AE [4] []) (gi (bi 31 (lE AE [4] []) (gw 33 (lG AE [0] (AG _ _ · m0 AC))))))) (lE AE [4] [])
theorem nX {n:Nat} {q:AA} {pos:List Int} {r:Int} (h:Sh n q pos=some r):EQ 37 [.agg 5 (L1 (AD q)),.ints pos] [] (.i r) [] true:=by
 refine ot Tryz.func37 fun B N=>?_
 revert r;apply gO;exact cf VA [some (.cells (AD q))] fun _=>bi 11 (lE AE [4] []) (bi 17 (lE AE [4] []) (lN AE [0] ((na B N q pos n) _ _ · n Nat.le.refl)))
def f5 (n:Nat) (s_:List Int):Option ((List Int)):=
 if 0<s_.length/\ ((True)/\ (0=0/\ 0=([]:List Int).length)/\ ([]:List Int).length+s_.length<=As) then
  if ([]:List Int).length+s_.length=(([]:List Int)++s_).length then
   some (([]:List Int)++s_)
  else none
 else none
def Ui (n:Nat) (s_:List Int):Option ((List Int)):=f5 n s_
theorem wg {n:Nat} {s_:List Int} {r:(List Int)} (h:Ui n s_=some r):EQ 77 [.ints s_] [] (.msl 0 1 0 r.length) [some (.ints r)] true:=by
 refine ot Tryz.func77 fun B N=>?_
 revert r;apply gO;exact gc (gi (gi (gn fun g2=>lF fun p=>el AE [2] [1] p [] H0 [.msl 0 1 0 (([]:List Int).length+s_.length)] (AT.mslN g2))))
def YZ (n:Nat) (s_:List Bool):Option ((List Bool)):=
 if 0<s_.length/\ ((True)/\ (0=0/\ 0=([]:List Bool).length)/\ ([]:List Bool).length+s_.length<=As) then
  if ([]:List Bool).length+s_.length=(([]:List Bool)++s_).length then
   some (([]:List Bool)++s_)
  else none
 else none
def Mp (n:Nat) (s_:List Bool):Option ((List Bool)):=YZ n s_
theorem f6 {n:Nat} {s_:List Bool} {r:(List Bool)} (h:Mp n s_=some r):EQ 122 [.bools s_] [] (.msl 0 1 0 r.length) [some (.bools r)] true:=by
 refine ot Tryz.func122 fun B N=>?_
 revert r;apply gO;exact gc (gi (gi (gn fun g2=>lF fun p=>el AE [2] [1] p [] H0 [.msl 0 1 0 (([]:List Bool).length+s_.length)] (AT.mslN g2))))
def Ya (n:Nat) (q:AA) (i:Int) (pos:List Int):Option Int:=
 (L8 n q i).bind fun y1=>
  bif (y1.2 != 0) then
   some y1.2
  else
   (Sh n q pos).bind fun y2=>
    some y2
def Mq (n:Nat) (q:AA) (i:Int) (pos:List Int):Option Int:=Ya n q i pos
theorem f7 {n:Nat} {q:AA} {i:Int} {pos:List Int} {r:Int} (h:Mq n q i pos=some r):EQ 43 [.agg 5 (L1 (AD q)),.i i,.ints pos] [] (.i r) [] true:=by
 unfold Mq Ya at h;refine ot Tryz.func43 fun B N=>?_
 revert r;apply gO;exact cf Wg [some (.cells (AD q))] fun _=>bi 16 (lE AE [6] []) (cf nX [some (.cells (AD q))] fun _=>lE AE [6] [])
theorem kR:Ay (BC Tryz.f54 6) [] (List.range 9) []:=by unfold Ay;kernel_rfl
def O5:Bb:=fun i=>match i with
 | 6=>.ord [] (List.range 9) []
 | _=>.no
inductive SC where
 | l1 (x5:Int)
def kF (n:Nat) (self:SC -> Option Bool) (a b_:List (Int×Int)) (x5:Int):Option Bool:=
 bif (decide (x5<(a.length:Int))) then
  if (0<=x5/\ x5<(a.length:Int))/\ (0<=x5/\ x5<(b_.length:Int)) then
   bif (!((((a.getD ((x5).toNat) default).1)==((b_.getD ((x5).toNat) default).1))&&((((a.getD ((x5).toNat) default).2)==((b_.getD ((x5).toNat) default).2))&&true))) then
    some false
   else
    if AH (x5+1) then
     self (.l1 (x5+1))
    else none
  else none
 else
  some true
def kG (n:Nat) (self:SC -> Option Bool) (a b_:List (Int×Int)):Option Bool:=
 bif ((a.length:Int) != (b_.length:Int)) then
  some false
 else
  self (.l1 0)
def VY (a b_:List (Int×Int)):Nat -> SC -> Option Bool
 | 0,_=>none
 | n+1,.l1 x5=>kF n (VY a b_ n) a b_ x5
def aU (n:Nat) (a b_:List (Int×Int)):Option Bool:=kG n (VY a b_ n) a b_
def kH (n B:Nat) (N:Yd 0) (a b_:List (Int×Int)) (r:Bool):SC -> Prop
 | .l1 x5=>∀ m0:Nat,n<=m0 -> TW B N (FQ Tryz.f54 0 (.bool r) []) (A2 m0 (BA (AX Tryz.f54) 0 [])) ⟨AM 26 [(0,.sl 2 a.length (Am DB a)),(1,.sl 2 b_.length (Am DB b_)),(5,.i x5)],[]⟩
theorem kI (B:Nat) (N:Yd 0) (a b_:List (Int×Int)):Al (VY a b_) (kH · B N a b_):=ia (fun _=>rfl) fun n AG pt r h=>by
 cases pt
 case l1 x5=>
  intro m0 AC;refine rd AC fun m0 AC=>?_
  revert r;apply gO;exact bi 14 (jg kR (gc (gi (gi (bi 25 (lE O5 [4] []) (gw 16 (lG O5 [] (AG _ _ · m0 AC)))))))) (lE O5 [4] [])
theorem kE {n:Nat} {a b_:List (Int×Int)} {r:Bool} (h:aU n a b_=some r):EQ 54 [.sl 2 a.length (Am DB a),.sl 2 b_.length (Am DB b_)] [] (.bool r) [] true:=by
 refine ot Tryz.func54 fun B N=>?_
 revert r;apply gO;exact bi 10 (lE O5 [4] []) (lN O5 [] ((kI B N a b_ n) _ _ · n Nat.le.refl))
inductive T5 where
 | l1 (BU:Int)
def Qi (n:Nat) (self:T5 -> Option Int) (g_:List (List Int)) (sets:List (List Bool)) (BU:Int):Option Int:=
 bif (decide (BU<(sets.length:Int))) then
  if 0<=BU/\ BU<(sets.length:Int) then
   bif ((((sets.getD ((BU).toNat) []).length:Nat):Int) != (g_.length:Int)) then
    some 1
   else
    if AH (BU+1) then
     self (.l1 (BU+1))
    else none
  else none
 else
  some 0
def fA (n:Nat) (self:T5 -> Option Int) (g_:List (List Int)) (sets:List (List Bool)):Option Int:=
 (Qk n g_).bind fun y1=>
  bif (y1 != 0) then
   some y1
  else
   self (.l1 0)
def N6 (g_:List (List Int)) (sets:List (List Bool)):Nat -> T5 -> Option Int
 | 0,_=>none
 | n+1,.l1 BU=>Qi n (N6 g_ sets n) g_ sets BU
def Iy (n:Nat) (g_:List (List Int)) (sets:List (List Bool)):Option Int:=fA n (N6 g_ sets n) g_ sets
def um (n B:Nat) (N:Yd 0) (g_:List (List Int)) (sets:List (List Bool)) (r:Int):T5 -> Prop
 | .l1 BU=>∀ m0:Nat,n<=m0 -> TW B N (FQ Tryz.f124 0 (.i r) []) (A2 m0 (BA (AX Tryz.f124) 0 [])) ⟨AM 25 [(0,.sl 1 g_.length (Am Ar g_)),(13,.sl 1 sets.length (Am OS sets)),(14,.i (sets.length:Int)),(15,.i BU)],[]⟩
theorem uo (B:Nat) (N:Yd 0) (g_:List (List Int)) (sets:List (List Bool)):Al (N6 g_ sets) (um · B N g_ sets):=ia (fun _=>rfl) fun n AG pt r h=>by
 cases pt
 case l1 BU=>
  intro m0 AC;refine rd AC fun m0 AC=>?_
  revert r;apply gO;exact bi 16 (gi (bi 23 (lE AE [4] []) (gw 24 (lG AE [] (AG _ _ · m0 AC))))) (lE AE [4] [])
theorem T3 {n:Nat} {g_:List (List Int)} {sets:List (List Bool)} {r:Int} (h:Iy n g_ sets=some r):EQ 124 [.sl 1 g_.length (Am Ar g_),.sl 1 sets.length (Am OS sets)] [] (.i r) [] true:=by
 refine ot Tryz.func124 fun B N=>?_
 revert r;apply gO;exact cf fF [] fun _=>bi 11 (lE AE [4] []) (lN AE [] ((uo B N g_ sets n) _ _ · n Nat.le.refl))
end Go.Proofs.YtgkhhfnhacibcaaGreatDoor
namespace Go.Proofs.YtgkhhfnhacibcaaGreatDoor
open Go.RowKit
set_option maxRecDepth 100000
set_option maxHeartbeats 40000000
theorem lC:Ay (BC Tryz.f99 0) [] (List.range 18) [18]:=by unfold Ay;kernel_rfl
def jv:Bb:=fun i=>match i with
 | 0=>.ord [] (List.range 18) [18]
 | _=>.no
def Wd (n:Nat) (cell ss:Int) (c:AB) (q:AA) (pos:List Int) (ln:Nat) (lost:List Int):Option ((List Int)):=
 if (0<=cell/\ cell<(ln:Int))/\ 0+((cell).toNat)<lost.length/\ (0<=cell/\ cell<(pos.length:Int)) then
  some (lost.set (0+((cell).toNat)) (bits .or .i64 (lost.getD (0+((cell).toNat)) 0) (bits .and .i64 (pos.getD ((cell).toNat) 0) ss)))
 else none
def C5 (n:Nat) (cell ss:Int) (c:AB) (q:AA) (pos:List Int) (ln:Nat) (lost:List Int):Option ((List Int)):=Wd n cell ss c q pos ln lost
theorem FZ {n:Nat} {cell ss:Int} {c:AB} {q:AA} {pos:List Int} {ln:Nat} {lost:List Int} {r:(List Int)} (h:C5 n cell ss c q pos ln lost=some r):EQ 99 [.ref 0 0,.i cell,.i ss] [some (.cells (AF c++AD q++[.ints pos,.msl 1 1 0 ln])),some (.ints lost)] (.tup 0 (fun j=>([]:List DV).getD j .any)) [some (.cells (AF c++AD q++[.ints pos,.msl 1 1 0 ln])),some (.ints r)] false:=by
 refine ot Tryz.func99 fun B N=>?_
 revert r;apply gO;exact jg lC (gc (gn fun g0=>jg g0 (gc (gn fun g1=>jg g1 (gi (jg g0 (jg g1 (lE jv [] [0,1]))))))))
theorem kr:Ay (BC Tryz.f100 0) [] (List.range 22) [22]:=by unfold Ay;kernel_rfl
def jr:Bb:=fun i=>match i with
 | 0=>.ord [] (List.range 22) [22]
 | _=>.no
def WJ (n:Nat) (cell:Int) (c:AB) (q:AA) (pos:List Int) (ln:Nat) (lost:List Int):Option ((List Int)):=
 if (0<=cell/\ cell<(ln:Int))/\ 0+((cell).toNat)<lost.length/\ (0<=cell/\ cell<(pos.length:Int)) then
  some (lost.set (0+((cell).toNat)) (bits .or .i64 (lost.getD (0+((cell).toNat)) 0) (bits .andNot .i64 (pos.getD ((cell).toNat) 0) c.set)))
 else none
def Ft (n:Nat) (cell:Int) (c:AB) (q:AA) (pos:List Int) (ln:Nat) (lost:List Int):Option ((List Int)):=WJ n cell c q pos ln lost
theorem Kh {n:Nat} {cell:Int} {c:AB} {q:AA} {pos:List Int} {ln:Nat} {lost:List Int} {r:(List Int)} (h:Ft n cell c q pos ln lost=some r):EQ 100 [.ref 0 0,.i cell] [some (.cells (AF c++AD q++[.ints pos,.msl 1 1 0 ln])),some (.ints lost)] (.tup 0 (fun j=>([]:List DV).getD j .any)) [some (.cells (AF c++AD q++[.ints pos,.msl 1 1 0 ln])),some (.ints r)] false:=by
 refine ot Tryz.func100 fun B N=>?_
 revert r;apply gO;exact jg kr (gc (gn fun g0=>jg g0 (gc (gn fun g1=>jg g1 (gi (jg g0 (jg g1 (lE jr [] [0,1]))))))))
inductive Q2 where
 | l1 (x3 x4 A5:Int)
 | l2 (x3 x4 By:Int) (o1:List Int)
def Q1 (n:Nat) (self:Q2 -> Option (Bool×(List Int))) (c:AB) (q:AA) (pos:List Int) (ln:Nat) (lost:List Int) (x3 x4 A5:Int):Option (Bool×(List Int)):=
 bif (decide (A5<(c.cells.length:Int))) then
  if (0<=A5/\ A5<(c.cells.length:Int))/\ (0<=(c.cells.getD ((A5).toNat) 0)/\ (c.cells.getD ((A5).toNat) 0)<(pos.length:Int))/\ AH ((pos.getD ((c.cells.getD ((A5).toNat) 0).toNat) 0)-1) then
   bif ((bits .and .i64 (pos.getD ((c.cells.getD ((A5).toNat) 0).toNat) 0) ((pos.getD ((c.cells.getD ((A5).toNat) 0).toNat) 0)-1))==0) then
    if AH (A5+1) then
     self (.l1 (bits .or .i64 x3 (pos.getD ((c.cells.getD ((A5).toNat) 0).toNat) 0)) (bits .or .i64 x4 (bits .and .i64 x3 (pos.getD ((c.cells.getD ((A5).toNat) 0).toNat) 0))) (A5+1))
    else none
   else
    if AH (A5+1) then
     self (.l1 x3 x4 (A5+1))
    else none
  else none
 else
  self (.l2 x3 x4 0 lost)
def Q0 (n:Nat) (self:Q2 -> Option (Bool×(List Int))) (c:AB) (q:AA) (pos:List Int) (ln:Nat) (lost:List Int) (x3 x4 By:Int) (o1:List Int):Option (Bool×(List Int)):=
 bif (decide (By<(c.cells.length:Int))) then
  if (0<=By/\ By<(c.cells.length:Int))/\ (0<=(c.cells.getD ((By).toNat) 0)/\ (c.cells.getD ((By).toNat) 0)<(pos.length:Int))/\ AH ((pos.getD ((c.cells.getD ((By).toNat) 0).toNat) 0)-1) then
   bif ((bits .and .i64 (pos.getD ((c.cells.getD ((By).toNat) 0).toNat) 0) ((pos.getD ((c.cells.getD ((By).toNat) 0).toNat) 0)-1))==0) then
    (C5 n (c.cells.getD ((By).toNat) 0) (bits .or .i64 (bits .andNot .i64 x3 (pos.getD ((c.cells.getD ((By).toNat) 0).toNat) 0)) x4) c q pos ln o1).bind fun y1=>
     if AH (By+1) then
      self (.l2 x3 x4 (By+1) y1)
     else none
   else
    (C5 n (c.cells.getD ((By).toNat) 0) x3 c q pos ln o1).bind fun y1=>
     if AH (By+1) then
      self (.l2 x3 x4 (By+1) y1)
     else none
  else none
 else
  some (true,o1)
def fo (n:Nat) (self:Q2 -> Option (Bool×(List Int))) (c:AB) (q:AA) (pos:List Int) (ln:Nat) (lost:List Int):Option (Bool×(List Int)):=
 self (.l1 0 0 0)
def I1 (c:AB) (q:AA) (pos:List Int) (ln:Nat) (lost:List Int):Nat -> Q2 -> Option (Bool×(List Int))
 | 0,_=>none
 | n+1,.l1 x3 x4 A5=>Q1 n (I1 c q pos ln lost n) c q pos ln lost x3 x4 A5
 | n+1,.l2 x3 x4 By o1=>Q0 n (I1 c q pos ln lost n) c q pos ln lost x3 x4 By o1
def OM (n:Nat) (c:AB) (q:AA) (pos:List Int) (ln:Nat) (lost:List Int):Option (Bool×(List Int)):=fo n (I1 c q pos ln lost n) c q pos ln lost
def vt (n B:Nat) (N:Yd 2) (c:AB) (q:AA) (pos:List Int) (ln:Nat) (lost:List Int) (r:Bool×(List Int)):Q2 -> Prop
 | .l1 x3 x4 A5=>∀ m0:Nat,n<=m0 -> TW B N (FQ Tryz.f68 2 (.bool r.1) [some (.cells (AF c++AD q++[.ints pos,.msl 1 1 0 ln])),some (.ints r.2)]) (A2 m0 (BA (AX Tryz.f68) 0 [])) ⟨AM 77 [(0,.ref 0 0),(3,.i x3),(4,.i x4),(15,.ints c.cells),(16,.i (c.cells.length:Int)),(17,.i A5)],[some (.cells (AF c++AD q++[.ints pos,.msl 1 1 0 ln])),some (.ints lost)]⟩
 | .l2 x3 x4 By o1=>∀ m0:Nat,n<=m0 -> TW B N (FQ Tryz.f68 2 (.bool r.1) [some (.cells (AF c++AD q++[.ints pos,.msl 1 1 0 ln])),some (.ints r.2)]) (A2 m0 (BA (AX Tryz.f68) 2 [])) ⟨AM 77 [(0,.ref 0 0),(3,.i x3),(4,.i x4),(46,.ints c.cells),(47,.i (c.cells.length:Int)),(48,.i By)],[some (.cells (AF c++AD q++[.ints pos,.msl 1 1 0 ln])),some (.ints o1)]⟩
theorem vu (B:Nat) (N:Yd 2) (c:AB) (q:AA) (pos:List Int) (ln:Nat) (lost:List Int):Al (I1 c q pos ln lost) (vt · B N c q pos ln lost):=ia (fun _=>rfl) fun n AG pt r h=>by
 cases pt
 case l1 x3 x4 A5=>
  intro m0 AC;refine rd AC fun m0 AC=>?_
  revert r;apply gO;exact bi 18 (gc (gi (gc (gi (gw 30 (bi 32 (gw 41 (lG AE [0,1] (AG _ _ · m0 AC))) (gw 41 (lG AE [0,1] (AG _ _ · m0 AC))))))))) (lN AE [0,1] (AG _ _ · n Nat.le.refl))
 case l2 x3 x4 By o1=>
  intro m0 AC;refine rd AC fun m0 AC=>?_
  revert r;apply gO;exact bi 49 (gc (gi (gc (gi (gw 61 (bi 63 (ce FZ [0,1] [some (.cells (AF c++AD q++[.ints pos,.msl 1 1 0 ln])),some (.ints o1)] fun _=>gw 76 (lG AE [0,1] (AG _ _ · m0 AC))) (ce FZ [0,1] [some (.cells (AF c++AD q++[.ints pos,.msl 1 1 0 ln])),some (.ints o1)] fun _=>gw 76 (lG AE [0,1] (AG _ _ · m0 AC))))))))) (lE AE [2] [0,1])
theorem vr {n:Nat} {c:AB} {q:AA} {pos:List Int} {ln:Nat} {lost:List Int} {r:Bool×(List Int)} (h:OM n c q pos ln lost=some r):EQ 68 [.ref 0 0] [some (.cells (AF c++AD q++[.ints pos,.msl 1 1 0 ln])),some (.ints lost)] (.bool r.1) [some (.cells (AF c++AD q++[.ints pos,.msl 1 1 0 ln])),some (.ints r.2)] false:=by
 refine ot Tryz.func68 fun B N=>?_
 revert r;apply gO;exact lN AE [0,1] ((vu B N c q pos ln lost n) _ _ · n Nat.le.refl)
theorem lQ:Ay (BC Tryz.f69 5) [] (List.range 15) []:=by unfold Ay;kernel_rfl
theorem lP:Ay (BC Tryz.f69 8) [] (List.range 15) []:=by unfold Ay;kernel_rfl
theorem lR:Ay (BC Tryz.f69 16) [] (List.range 23) []:=by unfold Ay;kernel_rfl
theorem Va:Ay (BC Tryz.f69 18) [] (List.range 23) []:=by unfold Ay;kernel_rfl
def E7:Bb:=fun i=>match i with
 | 5=>.ord [] (List.range 15) []
 | 8=>.ord [] (List.range 15) []
 | 16=>.ord [] (List.range 23) []
 | 18=>.ord [] (List.range 23) []
 | _=>.no
inductive Q8 where
 | l1 (x3 x4 BU:Int)
 | l2 (x3 x4 B2:Int) (o1:List Int)
def Q7 (n:Nat) (self:Q8 -> Option (Bool×(List Int))) (c:AB) (q:AA) (pos:List Int) (ln:Nat) (lost:List Int) (x3 x4 BU:Int):Option (Bool×(List Int)):=
 bif (decide (BU<(c.cells.length:Int))) then
  if (0<=BU/\ BU<(c.cells.length:Int))/\ (0<=(c.cells.getD ((BU).toNat) 0)/\ (c.cells.getD ((BU).toNat) 0)<(pos.length:Int)) then
   bif ((bits .andNot .i64 (pos.getD ((c.cells.getD ((BU).toNat) 0).toNat) 0) c.set)==0) then
    if AH (x3+1)/\ AH (x4+1)/\ AH (BU+1) then
     self (.l1 (x3+1) (x4+1) (BU+1))
    else none
   else
    bif ((bits .and .i64 (pos.getD ((c.cells.getD ((BU).toNat) 0).toNat) 0) c.set) != 0) then
     if AH (x4+1)/\ AH (BU+1) then
      self (.l1 x3 (x4+1) (BU+1))
     else none
    else
     if AH (BU+1) then
      self (.l1 x3 x4 (BU+1))
     else none
  else none
 else
  bif (decide (x3>c.hi)) then
   some (false,lost)
  else
   bif (decide (x4<c.lo)) then
    some (false,lost)
   else
    self (.l2 x3 x4 0 lost)
def Q6 (n:Nat) (self:Q8 -> Option (Bool×(List Int))) (c:AB) (q:AA) (pos:List Int) (ln:Nat) (lost:List Int) (x3 x4 B2:Int) (o1:List Int):Option (Bool×(List Int)):=
 bif (decide (B2<(c.cells.length:Int))) then
  if 0<=B2/\ B2<(c.cells.length:Int) then
   bif (x3==c.hi) then
    if 0<=(c.cells.getD ((B2).toNat) 0)/\ (c.cells.getD ((B2).toNat) 0)<(pos.length:Int) then
     bif ((bits .andNot .i64 (pos.getD ((c.cells.getD ((B2).toNat) 0).toNat) 0) c.set) != 0) then
      (C5 n (c.cells.getD ((B2).toNat) 0) c.set c q pos ln o1).bind fun y1=>
       bif (x4==c.lo) then
        bif ((bits .and .i64 (pos.getD ((c.cells.getD ((B2).toNat) 0).toNat) 0) c.set) != 0) then
         (Ft n (c.cells.getD ((B2).toNat) 0) c q pos ln y1).bind fun y2=>
          if AH (B2+1) then
           self (.l2 x3 x4 (B2+1) y2)
          else none
        else
         if AH (B2+1) then
          self (.l2 x3 x4 (B2+1) y1)
         else none
       else
        if AH (B2+1) then
         self (.l2 x3 x4 (B2+1) y1)
        else none
     else
      bif (x4==c.lo) then
       bif ((bits .and .i64 (pos.getD ((c.cells.getD ((B2).toNat) 0).toNat) 0) c.set) != 0) then
        (Ft n (c.cells.getD ((B2).toNat) 0) c q pos ln o1).bind fun y1=>
         if AH (B2+1) then
          self (.l2 x3 x4 (B2+1) y1)
         else none
       else
        if AH (B2+1) then
         self (.l2 x3 x4 (B2+1) o1)
        else none
      else
       if AH (B2+1) then
        self (.l2 x3 x4 (B2+1) o1)
       else none
    else none
   else
    bif (x4==c.lo) then
     if 0<=(c.cells.getD ((B2).toNat) 0)/\ (c.cells.getD ((B2).toNat) 0)<(pos.length:Int) then
      bif ((bits .and .i64 (pos.getD ((c.cells.getD ((B2).toNat) 0).toNat) 0) c.set) != 0) then
       (Ft n (c.cells.getD ((B2).toNat) 0) c q pos ln o1).bind fun y1=>
        if AH (B2+1) then
         self (.l2 x3 x4 (B2+1) y1)
        else none
      else
       if AH (B2+1) then
        self (.l2 x3 x4 (B2+1) o1)
       else none
     else none
    else
     if AH (B2+1) then
      self (.l2 x3 x4 (B2+1) o1)
     else none
  else none
 else
  some (true,o1)
def wE (n:Nat) (self:Q8 -> Option (Bool×(List Int))) (c:AB) (q:AA) (pos:List Int) (ln:Nat) (lost:List Int):Option (Bool×(List Int)):=
 self (.l1 0 0 0)
def IE (c:AB) (q:AA) (pos:List Int) (ln:Nat) (lost:List Int):Nat -> Q8 -> Option (Bool×(List Int))
 | 0,_=>none
 | n+1,.l1 x3 x4 BU=>Q7 n (IE c q pos ln lost n) c q pos ln lost x3 x4 BU
 | n+1,.l2 x3 x4 B2 o1=>Q6 n (IE c q pos ln lost n) c q pos ln lost x3 x4 B2 o1
def OO (n:Nat) (c:AB) (q:AA) (pos:List Int) (ln:Nat) (lost:List Int):Option (Bool×(List Int)):=wE n (IE c q pos ln lost n) c q pos ln lost
def wF (n B:Nat) (N:Yd 2) (c:AB) (q:AA) (pos:List Int) (ln:Nat) (lost:List Int) (r:Bool×(List Int)):Q8 -> Prop
 | .l1 x3 x4 BU=>∀ m0:Nat,n<=m0 -> TW B N (FQ Tryz.f69 2 (.bool r.1) [some (.cells (AF c++AD q++[.ints pos,.msl 1 1 0 ln])),some (.ints r.2)]) (A2 m0 (BA (AX Tryz.f69) 0 [])) ⟨AM 140 [(0,.ref 0 0),(3,.i x3),(4,.i x4),(13,.ints c.cells),(14,.i (c.cells.length:Int)),(15,.i BU)],[some (.cells (AF c++AD q++[.ints pos,.msl 1 1 0 ln])),some (.ints lost)]⟩
 | .l2 x3 x4 B2 o1=>∀ m0:Nat,n<=m0 -> TW B N (FQ Tryz.f69 2 (.bool r.1) [some (.cells (AF c++AD q++[.ints pos,.msl 1 1 0 ln])),some (.ints r.2)]) (A2 m0 (BA (AX Tryz.f69) 3 [])) ⟨AM 140 [(0,.ref 0 0),(3,.i x3),(4,.i x4),(76,.ints c.cells),(77,.i (c.cells.length:Int)),(78,.i B2)],[some (.cells (AF c++AD q++[.ints pos,.msl 1 1 0 ln])),some (.ints o1)]⟩
theorem wG (B:Nat) (N:Yd 2) (c:AB) (q:AA) (pos:List Int) (ln:Nat) (lost:List Int):Al (IE c q pos ln lost) (wF · B N c q pos ln lost):=ia (fun _=>rfl) fun n AG pt r h=>by
 cases pt
 case l1 x3 x4 BU=>
  intro m0 AC;refine rd AC fun m0 AC=>?_
  revert r;apply gO;exact bi 16 (gc (gi (jg lQ (gn fun g1=>jg g1 (bi 33 (gc (gw 35 (gc (gw 37 (gw 55 (lG E7 [0,1] (AG _ _ · m0 AC))))))) (jg lP (jg g1 (bi 52 (gc (gw 54 (gw 55 (lG E7 [0,1] (AG _ _ · m0 AC))))) (gw 55 (lG E7 [0,1] (AG _ _ · m0 AC))))))))))) (bi 62 (lE E7 [2] [0,1]) (bi 70 (lE E7 [2] [0,1]) (lN E7 [0,1] (AG _ _ · n Nat.le.refl))))
 case l2 x3 x4 B2 o1=>
  intro m0 AC;refine rd AC fun m0 AC=>?_
  revert r;apply gO;exact bi 79 (gi (jg lR (bi 88 (gn fun g1=>jg g1 (bi 103 (ce FZ [0,1] [some (.cells (AF c++AD q++[.ints pos,.msl 1 1 0 ln])),some (.ints o1)] fun y1=>jg Va (bi 119 (jg g1 (bi 134 (ce Kh [0,1] [some (.cells (AF c++AD q++[.ints pos,.msl 1 1 0 ln])),some (.ints y1)] fun _=>gw 139 (lG E7 [0,1] (AG _ _ · m0 AC))) (gw 139 (lG E7 [0,1] (AG _ _ · m0 AC))))) (gw 139 (lG E7 [0,1] (AG _ _ · m0 AC))))) (jg Va (bi 119 (jg g1 (bi 134 (ce Kh [0,1] [some (.cells (AF c++AD q++[.ints pos,.msl 1 1 0 ln])),some (.ints o1)] fun _=>gw 139 (lG E7 [0,1] (AG _ _ · m0 AC))) (gw 139 (lG E7 [0,1] (AG _ _ · m0 AC))))) (gw 139 (lG E7 [0,1] (AG _ _ · m0 AC))))))) (jg Va (bi 119 (gi (bi 134 (ce Kh [0,1] [some (.cells (AF c++AD q++[.ints pos,.msl 1 1 0 ln])),some (.ints o1)] fun _=>gw 139 (lG E7 [0,1] (AG _ _ · m0 AC))) (gw 139 (lG E7 [0,1] (AG _ _ · m0 AC))))) (gw 139 (lG E7 [0,1] (AG _ _ · m0 AC)))))))) (lE E7 [2] [0,1])
theorem wD {n:Nat} {c:AB} {q:AA} {pos:List Int} {ln:Nat} {lost:List Int} {r:Bool×(List Int)} (h:OO n c q pos ln lost=some r):EQ 69 [.ref 0 0] [some (.cells (AF c++AD q++[.ints pos,.msl 1 1 0 ln])),some (.ints lost)] (.bool r.1) [some (.cells (AF c++AD q++[.ints pos,.msl 1 1 0 ln])),some (.ints r.2)] false:=by
 refine ot Tryz.func69 fun B N=>?_
 revert r;apply gO;exact lN E7 [0,1] ((wG B N c q pos ln lost n) _ _ · n Nat.le.refl)
end Go.Proofs.YtgkhhfnhacibcaaGreatDoor
namespace Go.Proofs.YtgkhhfnhacibcaaGreatDoor
open Go.RowKit
set_option maxRecDepth 100000
set_option maxHeartbeats 40000000
def jC (n:Nat) (AZ:Int):Option Unit:=
 some ()
def jD (n:Nat) (AZ:Int):Option Unit:=jC n AZ
theorem jB {n:Nat} (AZ:Int) {r:Unit} (h:jD n AZ=some r):EQ 79 [.i AZ] [] (.fn 110 1 (L1 [.ref 0 0])) [some (.cells [.i AZ])] true:=by
 refine ot Tryz.func79 fun B N=>?_
 revert r;apply gO;exact lE AE [2] [0]
theorem He {x:Int} (hx:0<=x/\ x<9223372036854775808) (h:DH):EQ 79 [.i x] h (.it h.length) (h++[some (.iter ((Bg x).map BK))]) true:=by
 refine ES.iterOf (jB (n:=0) x (r:=()) rfl) rfl (by kernel_rfl) (fun args W=>?_) (fun w b o u hg GN hb hc hr=>i9 hx w b o u hg GN hb hc hr) rfl (fun b hb=>?_) h
 ·exact fX Tryz.func110 (by kernel_rfl) (by kernel_rfl) args W
 ·rw [hb];decide
def Z1:ST:=.rd 0 (.rd 1 (.rd 2 (.rd 3 (.rd 4 (.rd 5 (.rd 6 (.rd 7 (.rd 8 (.rd 9 (.rd 10 (.rd 11 (.rd 12 (.rd 13 (.rd 14 (.rd 15 (.rd 16 (.rd 17 (.rd 18 (.rd 19 (.ef 20 (.ef 21 (.fin [] [4,5]) (.no)) (.no)))))))))))))))))))))
theorem lO:CI (BC Tryz.f101 4) [20] Z1:=by unfold CI;kernel_rfl
def Z0:ST:=.rd 0 (.rd 1 (.ef 2 (.ef 3 (.fin [] [4,5]) (.no)) (.no)))
theorem lM:CI (BC Tryz.f101 5) [2] Z0:=by unfold CI;kernel_rfl
def R8:Bb:=fun i=>match i with
 | 4=>.tre [20] Z1
 | 5=>.tre [2] Z0
 | _=>.no
def tH (c:AB) (q:AA) (pos:List Int) (ln:Nat) (lost:List Int):DH:=[some (.cells (AF c++AD q++[.ints pos,.msl 1 1 0 ln])),some (.ints lost),some (.cells [.ref 0 0]),some (.cells [.i 100]),some (.cells [.i (-1)])]
def tG (c:AB) (q:AA) (pos:List Int) (ln:Nat) (lost:List Int) (ss:Int):DH:=[some (.cells (AF c++AD q++[.ints pos,.msl 1 1 0 ln])),some (.ints lost),some (.cells [.ref 0 0]),some (.cells [.i 100]),some (.cells [.i (-1)]),some (.iter ((Bg ss).map BK))]
def Zh (c:AB) (q:AA) (pos:List Int) (ln:Nat) (lost:List Int) (Cp Co:Int):St:=⟨(AM 32 [(4,.ref 3 0),(5,.ref 4 0)]),([some (.cells (AF c++AD q++[.ints pos,.msl 1 1 0 ln])),some (.ints lost),some (.cells [.ref 0 0]),some (.cells [.i Cp]),some (.cells [.i Co]),none]:DH)⟩
def tF (c:AB) (q:AA) (pos:List Int) (ln:Nat) (lost:List Int) (FV FU:Int):DH:=[some (.cells (AF c++AD q++[.ints pos,.msl 1 1 0 ln])),some (.ints lost),some (.cells [.ref 0 0]),some (.cells [.i FV]),some (.cells [.i FU]),none]
def Zg (c:AB) (q:AA) (pos:List Int) (ln:Nat) (lost:List Int) (e8 FV FU:Int):St:=⟨(AM 32 [(4,.ref 3 0),(5,.ref 4 0)]),([some (.cells (AF c++AD q++[.ints pos,.msl 1 1 0 ln])),some (.ints lost),some (.cells [.ref 0 0]),some (.cells [.i (if (q.values.getD ((e8).toNat) 0)<FV then (q.values.getD ((e8).toNat) 0) else FV)]),some (.cells [.i (if (q.values.getD ((e8).toNat) 0)>FU then (q.values.getD ((e8).toNat) 0) else FU)]),none]:DH)⟩
inductive LA where
 | s0 (FV FU:Int)
def ff (c:AB) (q:AA) (pos:List Int) (ln:Nat) (lost:List Int):LA -> DH
 | .s0 FV FU=>[some (.cells (AF c++AD q++[.ints pos,.msl 1 1 0 ln])),some (.ints lost),some (.cells [.ref 0 0]),some (.cells [.i FV]),some (.cells [.i FU]),none]
def fe (n:Nat) (c:AB) (q:AA) (pos:List Int) (ln:Nat) (lost:List Int) (e8:Int) (FV FU:Int):Option LA:=
 if 0<=e8/\ e8<(q.values.length:Int) then
  some (.s0 (if (q.values.getD ((e8).toNat) 0)<FV then (q.values.getD ((e8).toNat) 0) else FV) (if (q.values.getD ((e8).toNat) 0)>FU then (q.values.getD ((e8).toNat) 0) else FU))
 else none
def fc (n:Nat) (c:AB) (q:AA) (pos:List Int) (ln:Nat) (lost:List Int) (e8:Int):LA -> Option LA
 | .s0 FV FU=>fe n c q pos ln lost e8 FV FU
def Qv (n:Nat) (c:AB) (q:AA) (pos:List Int) (ln:Nat) (lost:List Int) (e8:Int) (s:LA):Option LA:=fc n c q pos ln lost e8 s
theorem vf (n:Nat) (c:AB) (q:AA) (pos:List Int) (ln:Nat) (lost:List Int) (l B:Nat) (N:Yd 6) (e8:Int) (s:LA) (r:LA) (h:Qv n c q pos ln lost e8 s=some r):TA l B N (Cg 6 [] 0 (ff c q pos ln lost r)) Tryz.f101 8 ⟨AM 32 [(2,.ref 2 0),(4,.ref 3 0),(5,.ref 4 0),(8,.it 5),(9,.i e8)],ff c q pos ln lost s⟩:=by
 cases s with
 | s0 FV FU=>
  refine ag R8 [0,1,2,3,4,5] H0 (AM 32 [(2,.ref 2 0),(4,.ref 3 0),(5,.ref 4 0),(6,.i e8)]) (tF c q pos ln lost FV FU) fun N=>?_
  revert r;apply gO;exact jg lO (gn fun gZ=>jg gZ (jg gZ (jt (jt (jg (Eq.refl (Zg c q pos ln lost e8 FV FU)) (lF fun p=>rr (tg:=[([(20,3)],(Zg c q pos ln lost e8 FV FU))]) R8 [0,1,2,3,4,5] rfl p))))))
def fa (n:Nat) (ss:Int) (c:AB) (q:AA) (pos:List Int) (ln:Nat) (lost:List Int):Option (Int×Int×(List Int)):=
 if 0<=ss/\ ss<9223372036854775808 then
  (Bn (Qv n c q pos ln lost) (Bg ss) (.s0 100 (-1))).bind fun y1=>
   match y1 with
   | .s0 Cp Co=>
    some (Cp,Co,lost)
 else none
def Qw (n:Nat) (ss:Int) (c:AB) (q:AA) (pos:List Int) (ln:Nat) (lost:List Int):Option (Int×Int×(List Int)):=fa n ss c q pos ln lost
theorem OL {n:Nat} {ss:Int} {c:AB} {q:AA} {pos:List Int} {ln:Nat} {lost:List Int} {r:Int×Int×(List Int)} (h:Qw n ss c q pos ln lost=some r):EQ 101 [.ref 0 0,.i ss] [some (.cells (AF c++AD q++[.ints pos,.msl 1 1 0 ln])),some (.ints lost)] (.tup 2 (L1 [.i r.1,.i r.2.1])) [some (.cells (AF c++AD q++[.ints pos,.msl 1 1 0 ln])),some (.ints r.2.2)] false:=by
 refine ot Tryz.func101 fun B N=>?_
 revert r;apply gO
 exact jt (jt (gn fun g0=>jc (He g0 (tH c q pos ln lost)) (cn fun y1 A7=>fun p r h=>by
  refine gs R8 [0,1,2,3,4,5] p (FK (AX Tryz.f101) 8 []) (AM 32 [(2,.ref 2 0),(4,.ref 3 0),(5,.ref 4 0),(8,.it 5)]) (tG c q pos ln lost ss) ?_;refine r0 5 8 #[9] BK 6 A7 (vf n c q pos ln lost) ?_;cases y1 with
  | s0 Cp Co=>
   dsimp only at h
   revert r;apply gO;exact jg lM (jt (jt (jg (Eq.refl (Zh c q pos ln lost Cp Co)) (lE (tg:=[([(2,3)],(Zh c q pos ln lost Cp Co))]) R8 [4,5] [0,1,3,4])))))))
def Zm:ST:=.rd 0 (.rd 1 (.rd 2 (.rd 3 (.rd 4 (.rd 5 (.rd 6 (.rd 7 (.ef 8 (.rd 9 (.rd 10 (.rd 11 (.rd 12 (.rd 13 (.fin [] [1,3,4,7,8,19,20,21,90])))))) (.no)))))))))
theorem kL:CI (BC Tryz.f70 5) [] Zm:=by unfold CI;kernel_rfl
def Zl:ST:=.rd 0 (.rd 1 (.rd 2 (.rd 3 (.rd 4 (.rd 5 (.ef 6 (.ef 7 (.fin [] [1,3,4,19,20,21,90]) (.no)) (.no)))))))
theorem kK:CI (BC Tryz.f70 6) [6] Zl:=by unfold CI;kernel_rfl
theorem kJ:Ay (BC Tryz.f70 8) [] (List.range 16) []:=by unfold Ay;kernel_rfl
def Zo:ST:=.rd 0 (.rd 1 (.rd 2 (.rd 3 (.rd 4 (.rd 5 (.rd 6 (.rd 7 (.ef 8 (.rd 9 (.rd 10 (.rd 11 (.ef 12 (.ef 13 (.ef 14 (.ef 15 (.fin [0,1] [1,3,4,10,11,12,64,65,66,90]) (.no)) (.no)) (.no)) (.ef 13 (.ef 12 (.ef 14 (.ef 15 (.fin [1,0] [1,3,4,10,11,12,64,65,66,90]) (.no)) (.no)) (.no)) (.no)))))) (.ef 12 (.ef 8 (.rd 9 (.rd 10 (.rd 11 (.ef 13 (.ef 14 (.ef 15 (.fin [0,1] [1,3,4,10,11,12,64,65,66,90]) (.no)) (.no)) (.no))))) (.ef 13 (.ef 8 (.rd 9 (.rd 10 (.rd 11 (.ef 14 (.ef 15 (.fin [0,1] [1,3,4,10,11,12,64,65,66,90]) (.no)) (.no))))) (.no)) (.no))) (.ef 13 (.ef 8 (.rd 9 (.rd 10 (.rd 11 (.ef 12 (.ef 14 (.ef 15 (.fin [1,0] [1,3,4,10,11,12,64,65,66,90]) (.no)) (.no)) (.no))))) (.ef 12 (.ef 8 (.rd 9 (.rd 10 (.rd 11 (.ef 14 (.ef 15 (.fin [1,0] [1,3,4,10,11,12,64,65,66,90]) (.no)) (.no))))) (.no)) (.no))) (.no)))))))))))
theorem kO:CI (BC Tryz.f70 13) [12,13,14] Zo:=by unfold CI;kernel_rfl
theorem kN:Ay (BC Tryz.f70 14) [([0,1,2,3,4,5,6],7)] [] []:=by unfold Ay;kernel_rfl
theorem kM:Ay (BC Tryz.f70 17) [] (List.range 24) []:=by unfold Ay;kernel_rfl
def Zn:ST:=.rd 0 (.rd 1 (.rd 2 (.rd 3 (.ef 4 (.fin [] [2]) (.no)))))
theorem aV:CI (BC Tryz.f70 18) [] Zn:=by unfold CI;kernel_rfl
def G8:Bb:=fun i=>match i with
 | 5=>.tre [] Zm
 | 6=>.tre [6] Zl
 | 8=>.ord [] (List.range 16) []
 | 13=>.tre [12,13,14] Zo
 | 14=>.ord [([0,1,2,3,4,5,6],7)] [] []
 | 17=>.ord [] (List.range 24) []
 | 18=>.tre [] Zn
 | _=>.no
def rq (c:AB) (q:AA) (pos:List Int) (ln:Nat) (o1:List Int) (A1 Ak:Int):DH:=[some (.cells (AF c++AD q++[.ints pos,.msl 1 1 0 ln])),some (.ints o1),some (.cells [.ref 0 0]),some (.cells [.i A1]),some (.cells [.i Ak])]
def ZV (y1:Int×Int×(List Int)) (c:AB) (x21:Int) (q:AA) (pos:List Int) (ln:Nat) (A1 Ak:Int):St:=⟨(AM 129 [(1,.ref 2 0),(3,.ref 3 0),(4,.ref 4 0),(7,.i y1.1),(8,.i y1.2.1),(19,.ints c.cells),(20,.i (c.cells.length:Int)),(21,.i x21)]),([some (.cells (AF c++AD q++[.ints pos,.msl 1 1 0 ln])),some (.ints y1.2.2),some (.cells [.ref 0 0]),some (.cells [.i A1]),some (.cells [.i Ak])]:DH)⟩
def ZU (c:AB) (x21:Int) (q:AA) (pos:List Int) (ln:Nat) (y1:Int×Int×(List Int)) (A1 Ak:Int):St:=⟨(AM 129 [(1,.ref 2 0),(3,.ref 3 0),(4,.ref 4 0),(19,.ints c.cells),(20,.i (c.cells.length:Int)),(21,.i x21)]),([some (.cells (AF c++AD q++[.ints pos,.msl 1 1 0 ln])),some (.ints y1.2.2),some (.cells [.ref 0 0]),some (.cells [.i (A1+y1.1)]),some (.cells [.i (Ak+y1.2.1)])]:DH)⟩
def rp (c:AB) (q:AA) (pos:List Int) (ln:Nat) (o1:List Int) (A1 Ak Ah:Int):DH:=[some (.cells (AF c++AD q++[.ints pos,.msl 1 1 0 ln])),some (.ints o1),some (.cells [.ref 0 0]),some (.cells [.i A1]),some (.cells [.i Ak]),some (.cells [.i (c.cells.getD ((Ah).toNat) 0)])]
def LU (c:AB) (Ah:Int) (q:AA) (pos:List Int) (ln:Nat) (y1:Int×Int×(List Int)) (A1 Ak:Int):St:=⟨(AM 129 [(1,.ref 2 0),(3,.ref 3 0),(4,.ref 4 0),(10,.ref 5 0),(11,.ref 6 0),(12,.ref 7 0),(64,.ints c.cells),(65,.i (c.cells.length:Int)),(66,.i Ah)]),([some (.cells (AF c++AD q++[.ints pos,.msl 1 1 0 ln])),some (.ints y1.2.2),some (.cells [.ref 0 0]),some (.cells [.i A1]),some (.cells [.i Ak]),some (.cells [.i (c.cells.getD ((Ah).toNat) 0)]),some (.cells [.i y1.1]),some (.cells [.i y1.2.1])]:DH)⟩
def dh (c:AB) (q:AA) (pos:List Int) (ln:Nat) (o1:List Int) (A1 Ak Ah:Int):DH:=[some (.cells (AF c++AD q++[.ints pos,.msl 1 1 0 ln])),some (.ints o1),some (.cells [.ref 0 0]),some (.cells [.i A1]),some (.cells [.i Ak]),some (.cells [.i (c.cells.getD ((Ah).toNat) 0)]),some (.cells [.i 0])]
def dg (c:AB) (q:AA) (pos:List Int) (ln:Nat) (o1:List Int) (A1 Ak Ah:Int):DH:=[some (.cells (AF c++AD q++[.ints pos,.msl 1 1 0 ln])),some (.ints o1),some (.cells [.ref 0 0]),some (.cells [.i A1]),some (.cells [.i Ak]),some (.cells [.i (c.cells.getD ((Ah).toNat) 0)]),some (.cells [.i 0]),some (.cells [.i 0])]
def ro (c:AB) (q:AA) (pos:List Int) (ln:Nat) (y1:Int×Int×(List Int)) (A1 Ak Ah:Int):DH:=[some (.cells (AF c++AD q++[.ints pos,.msl 1 1 0 ln])),some (.ints y1.2.2),some (.cells [.ref 0 0]),some (.cells [.i A1]),some (.cells [.i Ak]),some (.cells [.i (c.cells.getD ((Ah).toNat) 0)]),some (.cells [.i y1.1]),some (.cells [.i y1.2.1])]
def rj (c:AB) (q:AA) (pos:List Int) (ln:Nat) (y1:Int×Int×(List Int)) (A1 Ak Ah:Int):DH:=[some (.cells (AF c++AD q++[.ints pos,.msl 1 1 0 ln])),some (.ints y1.2.2),some (.cells [.ref 0 0]),some (.cells [.i A1]),some (.cells [.i Ak]),some (.cells [.i (c.cells.getD ((Ah).toNat) 0)]),some (.cells [.i y1.1]),some (.cells [.i y1.2.1]),some (.iter ((Bg (pos.getD ((c.cells.getD ((Ah).toNat) 0).toNat) 0)).map BK))]
def XL (c:AB) (q:AA) (pos:List Int) (ln:Nat) (Fn:List Int) (A1 Ak Ah:Int) (y1:Int×Int×(List Int)):DH:=[some (.cells (AF c++AD q++[.ints pos,.msl 1 1 0 ln])),some (.ints Fn),some (.cells [.ref 0 0]),some (.cells [.i A1]),some (.cells [.i Ak]),some (.cells [.i (c.cells.getD ((Ah).toNat) 0)]),some (.cells [.i y1.1]),some (.cells [.i y1.2.1]),none]
def Rj (c:AB) (q:AA) (pos:List Int) (ln:Nat) (IF:(List Int)) (A1 Ak Ah:Int) (y1:Int×Int×(List Int)):St:=⟨(AM 129 []),([some (.cells (AF c++AD q++[.ints pos,.msl 1 1 0 ln])),some (.ints IF),some (.cells [.ref 0 0]),some (.cells [.i A1]),some (.cells [.i Ak]),some (.cells [.i (c.cells.getD ((Ah).toNat) 0)]),some (.cells [.i y1.1]),some (.cells [.i y1.2.1]),none]:DH)⟩
inductive JJ where
 | s0 (Fn:List Int)
def Z4 (c:AB) (Ah:Int) (q:AA) (pos:List Int) (ln:Nat) (A1 Ak:Int) (y1:Int×Int×(List Int)):JJ -> DH
 | .s0 Fn=>[some (.cells (AF c++AD q++[.ints pos,.msl 1 1 0 ln])),some (.ints Fn),some (.cells [.ref 0 0]),some (.cells [.i A1]),some (.cells [.i Ak]),some (.cells [.i (c.cells.getD ((Ah).toNat) 0)]),some (.cells [.i y1.1]),some (.cells [.i y1.2.1]),none]
def Rq (n:Nat) (c:AB) (Ah:Int) (q:AA) (pos:List Int) (ln:Nat) (A1 Ak:Int) (y1:Int×Int×(List Int)) (D6:Int) (Fn:List Int):Option JJ:=
 if (0<=D6/\ D6<(q.values.length:Int))/\ AH (A1-y1.1)/\ AH ((A1-y1.1)+(q.values.getD ((D6).toNat) 0)) then
  bif (decide (((A1-y1.1)+(q.values.getD ((D6).toNat) 0))>c.hi)) then
   if 0<=D6/\ D6<=(IntKind.i64.bits:Int) then
    (C5 n (c.cells.getD ((Ah).toNat) 0) (IntKind.i64.wrap (1*2 ^ (D6).toNat)) c q pos ln Fn).bind fun IF=>
     some (.s0 IF)
   else none
  else
   if AH (Ak-y1.2.1)/\ AH ((Ak-y1.2.1)+(q.values.getD ((D6).toNat) 0)) then
    bif (decide (((Ak-y1.2.1)+(q.values.getD ((D6).toNat) 0))<c.lo)) then
     if 0<=D6/\ D6<=(IntKind.i64.bits:Int) then
      (C5 n (c.cells.getD ((Ah).toNat) 0) (IntKind.i64.wrap (1*2 ^ (D6).toNat)) c q pos ln Fn).bind fun IF=>
       some (.s0 IF)
     else none
    else
     some (.s0 Fn)
   else none
 else none
def Z3 (n:Nat) (c:AB) (Ah:Int) (q:AA) (pos:List Int) (ln:Nat) (A1 Ak:Int) (y1:Int×Int×(List Int)) (D6:Int):JJ -> Option JJ
 | .s0 Fn=>Rq n c Ah q pos ln A1 Ak y1 D6 Fn
def Rr (n:Nat) (c:AB) (Ah:Int) (q:AA) (pos:List Int) (ln:Nat) (A1 Ak:Int) (y1:Int×Int×(List Int)) (D6:Int) (s:JJ):Option JJ:=Z3 n c Ah q pos ln A1 Ak y1 D6 s
theorem jK (n:Nat) (c:AB) (Ah:Int) (q:AA) (pos:List Int) (ln:Nat) (A1 Ak:Int) (y1:Int×Int×(List Int)) (l B:Nat) (N:Yd 9) (D6:Int) (s:JJ) (r:JJ) (h:Rr n c Ah q pos ln A1 Ak y1 D6 s=some r):TA l B N (Cg 9 [] 0 (Z4 c Ah q pos ln A1 Ak y1 r)) Tryz.f70 89 ⟨AM 129 [(1,.ref 2 0),(3,.ref 3 0),(4,.ref 4 0),(10,.ref 5 0),(11,.ref 6 0),(12,.ref 7 0),(64,.ints c.cells),(65,.i (c.cells.length:Int)),(66,.i Ah),(89,.it 8),(90,.i D6)],Z4 c Ah q pos ln A1 Ak y1 s⟩:=by
 cases s with
 | s0 Fn=>
  replace h:Rq n c Ah q pos ln A1 Ak y1 D6 Fn=some r:=h;unfold Rq at h;refine ag G8 [0,1,2,3,4,5,6,7,8] H0 (AM 129 [(1,.ref 2 0),(3,.ref 3 0),(4,.ref 4 0),(10,.ref 5 0),(11,.ref 6 0),(12,.ref 7 0),(13,.i D6)]) (XL c q pos ln Fn A1 Ak Ah y1) fun N=>?_
  revert r;apply gO;exact gc (gi (jg kM (gc (gw 101 (gw 103 (bi 109 (jg aV (gi (ce FZ [0,1] (XL c q pos ln Fn A1 Ak Ah y1) fun IF=>jg (Eq.refl (Rj c q pos ln IF A1 Ak Ah y1)) (lF fun p=>rr (tg:=[([],(Rj c q pos ln IF A1 Ak Ah y1))]) G8 [0,1,2,3,4,5,6,7,8] rfl p)))) (gc (gw 113 (gw 115 (bi 121 (jg aV (gi (ce FZ [0,1] (XL c q pos ln Fn A1 Ak Ah y1) fun IF=>jg (Eq.refl (Rj c q pos ln IF A1 Ak Ah y1)) (lF fun p=>rr (tg:=[([],(Rj c q pos ln IF A1 Ak Ah y1))]) G8 [0,1,2,3,4,5,6,7,8] rfl p)))) (lF fun p=>rr G8 [0,1,2,3,4,5,6,7,8] rfl p)))))))))))
inductive Ot where
 | l1 (x21:Int) (o1:List Int) (A1 Ak:Int)
 | l2 (Ah:Int) (o1:List Int) (A1 Ak:Int)
def Oq (n:Nat) (self:Ot -> Option (Bool×(List Int))) (c:AB) (q:AA) (pos:List Int) (ln:Nat) (lost:List Int) (x21:Int) (o1:List Int) (A1 Ak:Int):Option (Bool×(List Int)):=
 bif (decide (x21<(c.cells.length:Int))) then
  if (0<=x21/\ x21<(c.cells.length:Int))/\ (0<=(c.cells.getD ((x21).toNat) 0)/\ (c.cells.getD ((x21).toNat) 0)<(pos.length:Int)) then
   (Qw n (pos.getD ((c.cells.getD ((x21).toNat) 0).toNat) 0) c q pos ln o1).bind fun y1=>
    if AH (A1+y1.1)/\ AH (Ak+y1.2.1)/\ AH (x21+1) then
     self (.l1 (x21+1) y1.2.2 (A1+y1.1) (Ak+y1.2.1))
    else none
  else none
 else
  bif (decide (A1>c.hi)) then
   some (false,o1)
  else
   bif (decide (Ak<c.lo)) then
    some (false,o1)
   else
    self (.l2 0 o1 A1 Ak)
def Oo (n:Nat) (self:Ot -> Option (Bool×(List Int))) (c:AB) (q:AA) (pos:List Int) (ln:Nat) (lost:List Int) (Ah:Int) (o1:List Int) (A1 Ak:Int):Option (Bool×(List Int)):=
 bif (decide (Ah<(c.cells.length:Int))) then
  if (0<=Ah/\ Ah<(c.cells.length:Int))/\ (0<=(c.cells.getD ((Ah).toNat) 0)/\ (c.cells.getD ((Ah).toNat) 0)<(pos.length:Int)) then
   (Qw n (pos.getD ((c.cells.getD ((Ah).toNat) 0).toNat) 0) c q pos ln o1).bind fun y1=>
    if 0<=(pos.getD ((c.cells.getD ((Ah).toNat) 0).toNat) 0)/\ (pos.getD ((c.cells.getD ((Ah).toNat) 0).toNat) 0)<9223372036854775808 then
     (Bn (Rr n c Ah q pos ln A1 Ak y1) (Bg (pos.getD ((c.cells.getD ((Ah).toNat) 0).toNat) 0)) (.s0 y1.2.2)).bind fun y2=>
      match y2 with
      | .s0 Hb=>
       if AH (Ah+1) then
        self (.l2 (Ah+1) Hb A1 Ak)
       else none
    else none
  else none
 else
  some (true,o1)
def jJ (n:Nat) (self:Ot -> Option (Bool×(List Int))) (c:AB) (q:AA) (pos:List Int) (ln:Nat) (lost:List Int):Option (Bool×(List Int)):=
 self (.l1 0 lost 0 0)
def Hf (c:AB) (q:AA) (pos:List Int) (ln:Nat) (lost:List Int):Nat -> Ot -> Option (Bool×(List Int))
 | 0,_=>none
 | n+1,.l1 x21 o1 A1 Ak=>Oq n (Hf c q pos ln lost n) c q pos ln lost x21 o1 A1 Ak
 | n+1,.l2 Ah o1 A1 Ak=>Oo n (Hf c q pos ln lost n) c q pos ln lost Ah o1 A1 Ak
def ND (n:Nat) (c:AB) (q:AA) (pos:List Int) (ln:Nat) (lost:List Int):Option (Bool×(List Int)):=jJ n (Hf c q pos ln lost n) c q pos ln lost
def jL (n B:Nat) (N:Yd 2) (c:AB) (q:AA) (pos:List Int) (ln:Nat) (lost:List Int) (r:Bool×(List Int)):Ot -> Prop
 | .l1 x21 o1 A1 Ak=>∀ m0:Nat,n<=m0 -> TW B N (FQ Tryz.f70 2 (.bool r.1) [some (.cells (AF c++AD q++[.ints pos,.msl 1 1 0 ln])),some (.ints r.2)]) (A2 m0 (BA (AX Tryz.f70) 0 [])) ⟨AM 129 [(1,.ref 2 0),(3,.ref 3 0),(4,.ref 4 0),(19,.ints c.cells),(20,.i (c.cells.length:Int)),(21,.i x21)],[some (.cells (AF c++AD q++[.ints pos,.msl 1 1 0 ln])),some (.ints o1),some (.cells [.ref 0 0]),some (.cells [.i A1]),some (.cells [.i Ak])]⟩
 | .l2 Ah o1 A1 Ak=>∀ m0:Nat,n<=m0 -> TW B N (FQ Tryz.f70 2 (.bool r.1) [some (.cells (AF c++AD q++[.ints pos,.msl 1 1 0 ln])),some (.ints r.2)]) (A2 m0 (BA (AX Tryz.f70) 2 [])) ⟨AM 129 [(1,.ref 2 0),(3,.ref 3 0),(4,.ref 4 0),(64,.ints c.cells),(65,.i (c.cells.length:Int)),(66,.i Ah)],[some (.cells (AF c++AD q++[.ints pos,.msl 1 1 0 ln])),some (.ints o1),some (.cells [.ref 0 0]),some (.cells [.i A1]),some (.cells [.i Ak])]⟩
theorem jM (B:Nat) (N:Yd 2) (c:AB) (q:AA) (pos:List Int) (ln:Nat) (lost:List Int):Al (Hf c q pos ln lost) (jL · B N c q pos ln lost):=ia (fun _=>rfl) fun n AG pt r h=>by
 cases pt
 case l1 x21 o1 A1 Ak=>
  intro m0 AC;refine rd AC fun m0 AC=>?_
  revert r;apply gO;exact bi 22 (gc (gi (jg kL (gi (ce OL [0,1] (rq c q pos ln o1 A1 Ak) fun y1=>jg (Eq.refl (ZV y1 c x21 q pos ln A1 Ak)) (jg kK (gc (gw 39 (gc (gw 42 (jt (jt (jg (Eq.refl (ZU c x21 q pos ln y1 A1 Ak)) (gw 43 (lG (tg:=[([],(ZV y1 c x21 q pos ln A1 Ak)),([(6,3)],(ZU c x21 q pos ln y1 A1 Ak))]) G8 [0,1,2,3,4] (AG _ _ · m0 AC)))))))))))))))) (jg kJ (bi 50 (lE G8 [2] [0,1]) (bi 58 (lE G8 [2] [0,1]) (lN G8 [0,1,2,3,4] (AG _ _ · n Nat.le.refl)))))
 case l2 Ah o1 A1 Ak=>
  intro m0 AC;refine rd AC fun m0 AC=>?_
  revert r;apply gO
  exact bi 67 (gc (gi (jt (jg kO (gn fun g1=>jg g1 (cn fun y1 A7=>jc (em (OL A7) [0,1] (rp c q pos ln o1 A1 Ak Ah)) (jt (jt (jg (Eq.refl (LU c Ah q pos ln y1 A1 Ak)) (jt (jt (jg (Eq.refl (LU c Ah q pos ln y1 A1 Ak)) (jc (em (OL A7) [0,1] (dh c q pos ln o1 A1 Ak Ah)) (jt (jt (jg (Eq.refl (LU c Ah q pos ln y1 A1 Ak)) (jc (em (OL A7) [0,1] (dg c q pos ln o1 A1 Ak Ah)) (jt (jt (jg (Eq.refl (LU c Ah q pos ln y1 A1 Ak)) (jc (em (OL A7) [0,1] (dh c q pos ln o1 A1 Ak Ah)) (jt (jt (jg (Eq.refl (LU c Ah q pos ln y1 A1 Ak)) (jc (em (OL A7) [0,1] (dg c q pos ln o1 A1 Ak Ah)) (jt (jt (jg (Eq.refl (LU c Ah q pos ln y1 A1 Ak)) (jg kN (jg g1 (gn fun g2=>jc (He g2 (ro c q pos ln y1 A1 Ak Ah)) (cn fun y2 Bu=>fun p r h=>by
   refine gs (tg:=[([],(LU c Ah q pos ln y1 A1 Ak))]) G8 [0,1,2,3,4,5,6,7,8] p (FK (AX Tryz.f70) 89 [m0]) (AM 129 [(1,.ref 2 0),(3,.ref 3 0),(4,.ref 4 0),(10,.ref 5 0),(11,.ref 6 0),(12,.ref 7 0),(64,.ints c.cells),(65,.i (c.cells.length:Int)),(66,.i Ah),(89,.it 8)]) (rj c q pos ln y1 A1 Ak Ah) ?_;refine r0 8 89 #[90] BK 9 Bu (jK n c Ah q pos ln A1 Ak y1) ?_;cases y2 with
   | s0 Hb=>
    dsimp only at h
    revert r;apply gO;exact gw 128 (lG G8 [0,1,2,3,4] (AG _ _ · m0 AC)))))))))))))))))))))))))))))))))) (lE G8 [2] [0,1])
theorem jI {n:Nat} {c:AB} {q:AA} {pos:List Int} {ln:Nat} {lost:List Int} {r:Bool×(List Int)} (h:ND n c q pos ln lost=some r):EQ 70 [.ref 0 0] [some (.cells (AF c++AD q++[.ints pos,.msl 1 1 0 ln])),some (.ints lost)] (.bool r.1) [some (.cells (AF c++AD q++[.ints pos,.msl 1 1 0 ln])),some (.ints r.2)] false:=by
 refine ot Tryz.func70 fun B N=>?_
 revert r;apply gO;exact jt (jt (lN G8 [0,1,2,3,4] ((jM B N c q pos ln lost n) _ _ · n Nat.le.refl)))
end Go.Proofs.YtgkhhfnhacibcaaGreatDoor
namespace Go.Proofs.YtgkhhfnhacibcaaGreatDoor
open Go.RowKit
set_option maxRecDepth 100000
set_option maxHeartbeats 40000000
theorem lS:Ay (BC Tryz.f106 1) [] (List.range 18) []:=by unfold Ay;kernel_rfl
def jx:Bb:=fun i=>match i with
 | 1=>.ord [] (List.range 18) []
 | _=>.no
def iB (n:Nat) (s_ t_:Int) (c:AB) (q:AA) (pos:List Int) (ln:Nat) (lost:List Int):Option (Bool×(List Int)):=
 if (0<=s_/\ s_<(q.values.length:Int))/\ (0<=t_/\ t_<(q.values.length:Int))/\ AH ((q.values.getD ((s_).toNat) 0)-(q.values.getD ((t_).toNat) 0))/\ AH (0-((q.values.getD ((s_).toNat) 0)-(q.values.getD ((t_).toNat) 0))) then
  some ((decide ((if (0-((q.values.getD ((s_).toNat) 0)-(q.values.getD ((t_).toNat) 0)))>((q.values.getD ((s_).toNat) 0)-(q.values.getD ((t_).toNat) 0)) then (0-((q.values.getD ((s_).toNat) 0)-(q.values.getD ((t_).toNat) 0))) else ((q.values.getD ((s_).toNat) 0)-(q.values.getD ((t_).toNat) 0)))>=c.lo)),lost)
 else none
def Ut (n:Nat) (s_ t_:Int) (c:AB) (q:AA) (pos:List Int) (ln:Nat) (lost:List Int):Option (Bool×(List Int)):=iB n s_ t_ c q pos ln lost
theorem xW {n:Nat} {s_ t_:Int} {c:AB} {q:AA} {pos:List Int} {ln:Nat} {lost:List Int} {r:Bool×(List Int)} (h:Ut n s_ t_ c q pos ln lost=some r):EQ 106 [.i s_,.i t_,.ref 0 0] [some (.cells [.ref 1 0]),some (.cells (AF c++AD q++[.ints pos,.msl 2 1 0 ln])),some (.ints lost)] (.bool r.1) [some (.cells [.ref 1 0]),some (.cells (AF c++AD q++[.ints pos,.msl 2 1 0 ln])),some (.ints r.2)] false:=by
 refine ot Tryz.func106 fun B N=>?_
 revert r;apply gO;exact jg lS (gc (gi (gc (gi (gc (gw 23 (gw 26 (lE jx [5] [0,1,2]))))))))
theorem ku:Ay (BC Tryz.f107 1) [] (List.range 6) []:=by unfold Ay;kernel_rfl
def O7:Bb:=fun i=>match i with
 | 1=>.ord [] (List.range 6) []
 | _=>.no
def b9 (n:Nat) (s_ t_:Int) (c:AB) (q:AA) (pos:List Int) (ln:Nat) (lost:List Int):Option (Bool×(List Int)):=
 if (0<=s_/\ s_<=(IntKind.i64.bits:Int))/\ (0<=t_/\ t_<=(IntKind.i64.bits:Int)) then
  bif ((bits .and .i64 (IntKind.i64.wrap (1*2 ^ (s_).toNat)) c.set)==0) then
   bif ((bits .and .i64 (IntKind.i64.wrap (1*2 ^ (t_).toNat)) c.set)==0) then
    some (true,lost)
   else
    some (((bits .and .i64 (IntKind.i64.wrap (1*2 ^ (s_).toNat)) c.other)==0),lost)
  else
   bif ((bits .and .i64 (IntKind.i64.wrap (1*2 ^ (t_).toNat)) c.other)==0) then
    bif ((bits .and .i64 (IntKind.i64.wrap (1*2 ^ (t_).toNat)) c.set)==0) then
     some (true,lost)
    else
     some (((bits .and .i64 (IntKind.i64.wrap (1*2 ^ (s_).toNat)) c.other)==0),lost)
   else
    some (false,lost)
 else none
def S7 (n:Nat) (s_ t_:Int) (c:AB) (q:AA) (pos:List Int) (ln:Nat) (lost:List Int):Option (Bool×(List Int)):=b9 n s_ t_ c q pos ln lost
theorem oL {n:Nat} {s_ t_:Int} {c:AB} {q:AA} {pos:List Int} {ln:Nat} {lost:List Int} {r:Bool×(List Int)} (h:S7 n s_ t_ c q pos ln lost=some r):EQ 107 [.i s_,.i t_,.ref 0 0] [some (.cells [.ref 1 0]),some (.cells (AF c++AD q++[.ints pos,.msl 2 1 0 ln])),some (.ints lost)] (.bool r.1) [some (.cells [.ref 1 0]),some (.cells (AF c++AD q++[.ints pos,.msl 2 1 0 ln])),some (.ints r.2)] false:=by
 refine ot Tryz.func107 fun B N=>?_
 revert r;apply gO;exact jg ku (gc (gi (gi (bi 19 (bi 38 (lE O7 [5] [0,1,2]) (lE O7 [5] [0,1,2])) (bi 28 (bi 38 (lE O7 [5] [0,1,2]) (lE O7 [5] [0,1,2])) (lE O7 [5] [0,1,2]))))))
theorem kq:Ay (BC Tryz.f105 1) [] (List.range 16) []:=by unfold Ay;kernel_rfl
theorem kn:Ay (BC Tryz.f105 2) [([0,1,2,3,4,5,6,7,8,9,10,11,12,13],14)] [15] [16]:=by unfold Ay;kernel_rfl
theorem km:Ay (BC Tryz.f105 9) [] [0,1,2,3] [4]:=by unfold Ay;kernel_rfl
theorem ko:Ay (BC Tryz.f105 10) [] [0,1,2,3] [4]:=by unfold Ay;kernel_rfl
def KW:Bb:=fun i=>match i with
 | 1=>.ord [] (List.range 16) []
 | 2=>.ord [([0,1,2,3,4,5,6,7,8,9,10,11,12,13],14)] [15] [16]
 | 9=>.ord [] [0,1,2,3] [4]
 | 10=>.ord [] [0,1,2,3] [4]
 | _=>.no
def s5 (c:AB) (q:AA) (pos:List Int) (ln:Nat) (lost:List Int):DH:=[some (.cells [.ref 1 0]),some (.cells (AF c++AD q++[.ints pos,.msl 2 1 0 ln])),some (.ints lost),some (.cells [.fn 106 1 (L1 [.ref 0 0])]),some (.cells [.i (pos.getD ((c.cells.getD 1 0).toNat) 0)]),some (.cells [.i 0]),some (.cells [.i 0])]
def s3 (c:AB) (q:AA) (pos:List Int) (ln:Nat) (lost:List Int):DH:=[some (.cells [.ref 1 0]),some (.cells (AF c++AD q++[.ints pos,.msl 2 1 0 ln])),some (.ints lost),some (.cells [.fn 106 1 (L1 [.ref 0 0])]),some (.cells [.i (pos.getD ((c.cells.getD 1 0).toNat) 0)]),some (.cells [.i 0]),some (.cells [.i 0]),some (.iter ((Bg (pos.getD ((c.cells.getD 0 0).toNat) 0)).map BK))]
def sw (c:AB) (q:AA) (pos:List Int) (ln:Nat) (Cp:List Int) (Co E3:Int):DH:=[some (.cells [.ref 1 0]),some (.cells (AF c++AD q++[.ints pos,.msl 2 1 0 ln])),some (.ints Cp),some (.cells [.fn 106 1 (L1 [.ref 0 0])]),some (.cells [.i (pos.getD ((c.cells.getD 1 0).toNat) 0)]),some (.cells [.i Co]),some (.cells [.i E3]),none]
def su (c:AB) (q:AA) (pos:List Int) (ln:Nat) (y2:(List Int)) (Co E3:Int):DH:=[some (.cells [.ref 1 0]),some (.cells (AF c++AD q++[.ints pos,.msl 2 1 0 ln])),some (.ints y2),some (.cells [.fn 106 1 (L1 [.ref 0 0])]),some (.cells [.i (pos.getD ((c.cells.getD 1 0).toNat) 0)]),some (.cells [.i Co]),some (.cells [.i E3]),none]
def dt (c:AB) (q:AA) (pos:List Int) (ln:Nat) (CT:List Int) (CS CR A8:Int):DH:=[some (.cells [.ref 1 0]),some (.cells (AF c++AD q++[.ints pos,.msl 2 1 0 ln])),some (.ints CT),some (.cells [.fn 106 1 (L1 [.ref 0 0])]),some (.cells [.i (pos.getD ((c.cells.getD 1 0).toNat) 0)]),some (.cells [.i CS]),some (.cells [.i CR]),none,some (.cells [.i A8])]
def sr (c:AB) (q:AA) (pos:List Int) (ln:Nat) (CT:List Int) (CS CR A8:Int):DH:=[some (.cells [.ref 1 0]),some (.cells (AF c++AD q++[.ints pos,.msl 2 1 0 ln])),some (.ints CT),some (.cells [.fn 106 1 (L1 [.ref 0 0])]),some (.cells [.i (pos.getD ((c.cells.getD 1 0).toNat) 0)]),some (.cells [.i CS]),some (.cells [.i CR]),none,some (.cells [.i A8]),some (.iter ((Bg (pos.getD ((c.cells.getD 1 0).toNat) 0)).map BK))]
def dq (c:AB) (q:AA) (pos:List Int) (ln:Nat) (DA:List Int) (Ct Cs A8:Int):DH:=[some (.cells [.ref 1 0]),some (.cells (AF c++AD q++[.ints pos,.msl 2 1 0 ln])),some (.ints DA),some (.cells [.fn 106 1 (L1 [.ref 0 0])]),some (.cells [.i (pos.getD ((c.cells.getD 1 0).toNat) 0)]),some (.cells [.i Ct]),some (.cells [.i Cs]),none,some (.cells [.i A8]),none]
inductive JY where
 | s0 (DA:List Int) (Ct Cs:Int)
def bu (c:AB) (q:AA) (pos:List Int) (ln:Nat) (A8:Int):JY -> DH
 | .s0 DA Ct Cs=>[some (.cells [.ref 1 0]),some (.cells (AF c++AD q++[.ints pos,.msl 2 1 0 ln])),some (.ints DA),some (.cells [.fn 106 1 (L1 [.ref 0 0])]),some (.cells [.i (pos.getD ((c.cells.getD 1 0).toNat) 0)]),some (.cells [.i Ct]),some (.cells [.i Cs]),none,some (.cells [.i A8]),none]
def Sr (n:Nat) (c:AB) (q:AA) (pos:List Int) (ln:Nat) (A8 Cy:Int) (DA:List Int) (Ct Cs:Int):Option JY:=
 (Ut n A8 Cy c q pos ln DA).bind fun Mv=>
  bif Mv.1 then
   if (0<=A8/\ A8<=(IntKind.i64.bits:Int))/\ (0<=Cy/\ Cy<=(IntKind.i64.bits:Int)) then
    some (.s0 Mv.2 (bits .or .i64 Ct (IntKind.i64.wrap (1*2 ^ (A8).toNat))) (bits .or .i64 Cs (IntKind.i64.wrap (1*2 ^ (Cy).toNat))))
   else none
  else
   some (.s0 Mv.2 Ct Cs)
def bs (n:Nat) (c:AB) (q:AA) (pos:List Int) (ln:Nat) (A8 Cy:Int):JY -> Option JY
 | .s0 DA Ct Cs=>Sr n c q pos ln A8 Cy DA Ct Cs
def Ss (n:Nat) (c:AB) (q:AA) (pos:List Int) (ln:Nat) (A8 Cy:Int) (s:JY):Option JY:=bs n c q pos ln A8 Cy s
theorem nq (n:Nat) (c:AB) (q:AA) (pos:List Int) (ln:Nat) (A8:Int) (l B:Nat) (N:Yd 10) (Cy:Int) (s:JY) (r:JY) (h:Ss n c q pos ln A8 Cy s=some r):TA l B N (Cg 10 [] 0 (bu c q pos ln A8 r)) Tryz.f105 45 ⟨AM 69 [(3,.ref 3 0),(9,.ref 5 0),(10,.ref 6 0),(11,.ref 8 0),(45,.it 9),(46,.i Cy)],bu c q pos ln A8 s⟩:=by
 cases s with
 | s0 DA Ct Cs=>
  replace h:Sr n c q pos ln A8 Cy DA Ct Cs=some r:=h;unfold Sr at h;refine ag KW [0,1,2,3,4,5,6,7,8,9] H0 (AM 69 [(3,.ref 3 0),(9,.ref 5 0),(10,.ref 6 0),(11,.ref 8 0),(12,.i Cy)]) (dq c q pos ln DA Ct Cs A8) fun N=>?_
  revert r;apply gO;exact ce xW [0,1,2] (dq c q pos ln DA Ct Cs A8) fun _=>bi 50 (jg km (gc (gi (jt (jg ko (gi (jt (lF fun p=>rr KW [0,1,2,3,4,5,6,7,8,9] rfl p)))))))) (lF fun p=>rr KW [0,1,2,3,4,5,6,7,8,9] rfl p)
inductive JZ where
 | s0 (CT:List Int) (CS CR:Int)
def bv (c:AB) (q:AA) (pos:List Int) (ln:Nat):JZ -> DH
 | .s0 CT CS CR=>[some (.cells [.ref 1 0]),some (.cells (AF c++AD q++[.ints pos,.msl 2 1 0 ln])),some (.ints CT),some (.cells [.fn 106 1 (L1 [.ref 0 0])]),some (.cells [.i (pos.getD ((c.cells.getD 1 0).toNat) 0)]),some (.cells [.i CS]),some (.cells [.i CR]),none]
def Sq (n:Nat) (c:AB) (q:AA) (pos:List Int) (ln:Nat) (A8:Int) (CT:List Int) (CS CR:Int):Option JZ:=
 if 0<=(pos.getD ((c.cells.getD 1 0).toNat) 0)/\ (pos.getD ((c.cells.getD 1 0).toNat) 0)<9223372036854775808 then
  (Bn (Ss n c q pos ln A8) (Bg (pos.getD ((c.cells.getD 1 0).toNat) 0)) (.s0 CT CS CR)).bind fun Mw=>
   match Mw with
   | .s0 RL RJ RH=>
    some (.s0 RL RJ RH)
 else none
def br (n:Nat) (c:AB) (q:AA) (pos:List Int) (ln:Nat) (A8:Int):JZ -> Option JZ
 | .s0 CT CS CR=>Sq n c q pos ln A8 CT CS CR
def Su (n:Nat) (c:AB) (q:AA) (pos:List Int) (ln:Nat) (A8:Int) (s:JZ):Option JZ:=br n c q pos ln A8 s
theorem np (n:Nat) (c:AB) (q:AA) (pos:List Int) (ln:Nat) (l B:Nat) (N:Yd 8) (A8:Int) (s:JZ) (r:JZ) (h:Su n c q pos ln A8 s=some r):TA l B N (Cg 8 [] 0 (bv c q pos ln r)) Tryz.f105 42 ⟨AM 69 [(0,.ref 1 0),(3,.ref 3 0),(5,.i (c.cells.getD 0 0)),(6,.i (c.cells.getD 1 0)),(8,.ref 4 0),(9,.ref 5 0),(10,.ref 6 0),(42,.it 7),(43,.i A8)],bv c q pos ln s⟩:=by
 cases s with
 | s0 CT CS CR=>
  replace h:Sq n c q pos ln A8 CT CS CR=some r:=h;unfold Sq at h;refine ag KW [0,1,2,3,4,5,6,7,8] (H0.t) (AM 69 [(3,.ref 3 0),(8,.ref 4 0),(9,.ref 5 0),(10,.ref 6 0),(11,.ref 8 0)]) (dt c q pos ln CT CS CR A8) fun N=>?_
  revert r;apply gO
  exact gn fun Ym=>jc (He Ym (dt c q pos ln CT CS CR A8)) (cn fun Mw Xv=>fun p r h=>by
   refine gs KW [0,1,2,3,4,5,6,7,8,9] p (FK (SQ Tryz.f105 42) 45 []) (AM 69 [(3,.ref 3 0),(9,.ref 5 0),(10,.ref 6 0),(11,.ref 8 0),(45,.it 9)]) (sr c q pos ln CT CS CR A8) ?_;refine r0 9 45 #[46] BK 10 Xv (nq n c q pos ln A8) ?_;cases Mw with
   | s0 RL RJ RH=>
    dsimp only at h
    revert r;apply gO;exact lF fun p=>rr KW [0,1,2,3,4,5,6,7] rfl p)
def bq (n:Nat) (c:AB) (q:AA) (pos:List Int) (ln:Nat) (lost:List Int):Option (Bool×(List Int)):=
 if ((0:Int)<=0/\ 0<(c.cells.length:Int))/\ ((0:Int)<=1/\ 1<(c.cells.length:Int))/\ (0<=(c.cells.getD 0 0)/\ (c.cells.getD 0 0)<(pos.length:Int))/\ (0<=(c.cells.getD 1 0)/\ (c.cells.getD 1 0)<(pos.length:Int))/\ (0<=(pos.getD ((c.cells.getD 0 0).toNat) 0)/\ (pos.getD ((c.cells.getD 0 0).toNat) 0)<9223372036854775808) then
  (Bn (Su n c q pos ln) (Bg (pos.getD ((c.cells.getD 0 0).toNat) 0)) (.s0 lost 0 0)).bind fun y1=>
   match y1 with
   | .s0 Cp Co E3=>
    (C5 n (c.cells.getD 0 0) (bits .xor .i64 (-1) Co) c q pos ln Cp).bind fun y2=>
     (C5 n (c.cells.getD 1 0) (bits .xor .i64 (-1) E3) c q pos ln y2).bind fun y3=>
      some (true,y3)
 else none
def WD (n:Nat) (c:AB) (q:AA) (pos:List Int) (ln:Nat) (lost:List Int):Option (Bool×(List Int)):=bq n c q pos ln lost
theorem nn {n:Nat} {c:AB} {q:AA} {pos:List Int} {ln:Nat} {lost:List Int} {r:Bool×(List Int)} (h:WD n c q pos ln lost=some r):EQ 105 [.ref 1 0,.fn 106 1 (L1 [.ref 0 0])] [some (.cells [.ref 1 0]),some (.cells (AF c++AD q++[.ints pos,.msl 2 1 0 ln])),some (.ints lost)] (.bool r.1) [some (.cells [.ref 1 0]),some (.cells (AF c++AD q++[.ints pos,.msl 2 1 0 ln])),some (.ints r.2)] false:=by
 refine ot Tryz.func105 fun B N=>?_
 revert r;apply gO
 exact jg kq (gc (gi (gc (gi (jg kn (gc (gi (gc (gi (jt (gn fun g4=>jc (He g4 (s5 c q pos ln lost)) (cn fun y1 A7=>fun p r h=>by
  refine gs KW [0,1,2,3,4,5,6,7] p (FK (AX Tryz.f105) 42 []) (AM 69 [(0,.ref 1 0),(3,.ref 3 0),(5,.i (c.cells.getD 0 0)),(6,.i (c.cells.getD 1 0)),(8,.ref 4 0),(9,.ref 5 0),(10,.ref 6 0),(42,.it 7)]) (s3 c q pos ln lost) ?_;refine r0 7 42 #[43] BK 8 A7 (np n c q pos ln) ?_;cases y1 with
  | s0 Cp Co E3=>
   dsimp only at h
   revert r;apply gO;exact ce FZ [1,2] (sw c q pos ln Cp Co E3) fun y2=>ce FZ [1,2] (su c q pos ln y2 Co E3) fun _=>lE KW [4] [0,1,2]))))))))))))
theorem kj:Ay (BC Tryz.f105 1) [] (List.range 16) []:=by unfold Ay;kernel_rfl
theorem kg:Ay (BC Tryz.f105 2) [([0,1,2,3,4,5,6,7,8,9,10,11,12,13],14)] [15] [16]:=by unfold Ay;kernel_rfl
theorem kf:Ay (BC Tryz.f105 9) [] [0,1,2,3] [4]:=by unfold Ay;kernel_rfl
theorem ki:Ay (BC Tryz.f105 10) [] [0,1,2,3] [4]:=by unfold Ay;kernel_rfl
def KV:Bb:=fun i=>match i with
 | 1=>.ord [] (List.range 16) []
 | 2=>.ord [([0,1,2,3,4,5,6,7,8,9,10,11,12,13],14)] [15] [16]
 | 9=>.ord [] [0,1,2,3] [4]
 | 10=>.ord [] [0,1,2,3] [4]
 | _=>.no
def sq (c:AB) (q:AA) (pos:List Int) (ln:Nat) (lost:List Int):DH:=[some (.cells [.ref 1 0]),some (.cells (AF c++AD q++[.ints pos,.msl 2 1 0 ln])),some (.ints lost),some (.cells [.fn 107 1 (L1 [.ref 0 0])]),some (.cells [.i (pos.getD ((c.cells.getD 1 0).toNat) 0)]),some (.cells [.i 0]),some (.cells [.i 0])]
def sp (c:AB) (q:AA) (pos:List Int) (ln:Nat) (lost:List Int):DH:=[some (.cells [.ref 1 0]),some (.cells (AF c++AD q++[.ints pos,.msl 2 1 0 ln])),some (.ints lost),some (.cells [.fn 107 1 (L1 [.ref 0 0])]),some (.cells [.i (pos.getD ((c.cells.getD 1 0).toNat) 0)]),some (.cells [.i 0]),some (.cells [.i 0]),some (.iter ((Bg (pos.getD ((c.cells.getD 0 0).toNat) 0)).map BK))]
def sn (c:AB) (q:AA) (pos:List Int) (ln:Nat) (Cp:List Int) (Co E3:Int):DH:=[some (.cells [.ref 1 0]),some (.cells (AF c++AD q++[.ints pos,.msl 2 1 0 ln])),some (.ints Cp),some (.cells [.fn 107 1 (L1 [.ref 0 0])]),some (.cells [.i (pos.getD ((c.cells.getD 1 0).toNat) 0)]),some (.cells [.i Co]),some (.cells [.i E3]),none]
def sk (c:AB) (q:AA) (pos:List Int) (ln:Nat) (y2:(List Int)) (Co E3:Int):DH:=[some (.cells [.ref 1 0]),some (.cells (AF c++AD q++[.ints pos,.msl 2 1 0 ln])),some (.ints y2),some (.cells [.fn 107 1 (L1 [.ref 0 0])]),some (.cells [.i (pos.getD ((c.cells.getD 1 0).toNat) 0)]),some (.cells [.i Co]),some (.cells [.i E3]),none]
def dp (c:AB) (q:AA) (pos:List Int) (ln:Nat) (CT:List Int) (CS CR A8:Int):DH:=[some (.cells [.ref 1 0]),some (.cells (AF c++AD q++[.ints pos,.msl 2 1 0 ln])),some (.ints CT),some (.cells [.fn 107 1 (L1 [.ref 0 0])]),some (.cells [.i (pos.getD ((c.cells.getD 1 0).toNat) 0)]),some (.cells [.i CS]),some (.cells [.i CR]),none,some (.cells [.i A8])]
def sj (c:AB) (q:AA) (pos:List Int) (ln:Nat) (CT:List Int) (CS CR A8:Int):DH:=[some (.cells [.ref 1 0]),some (.cells (AF c++AD q++[.ints pos,.msl 2 1 0 ln])),some (.ints CT),some (.cells [.fn 107 1 (L1 [.ref 0 0])]),some (.cells [.i (pos.getD ((c.cells.getD 1 0).toNat) 0)]),some (.cells [.i CS]),some (.cells [.i CR]),none,some (.cells [.i A8]),some (.iter ((Bg (pos.getD ((c.cells.getD 1 0).toNat) 0)).map BK))]
def dl (c:AB) (q:AA) (pos:List Int) (ln:Nat) (DA:List Int) (Ct Cs A8:Int):DH:=[some (.cells [.ref 1 0]),some (.cells (AF c++AD q++[.ints pos,.msl 2 1 0 ln])),some (.ints DA),some (.cells [.fn 107 1 (L1 [.ref 0 0])]),some (.cells [.i (pos.getD ((c.cells.getD 1 0).toNat) 0)]),some (.cells [.i Ct]),some (.cells [.i Cs]),none,some (.cells [.i A8]),none]
inductive JW where
 | s0 (DA:List Int) (Ct Cs:Int)
def bo (c:AB) (q:AA) (pos:List Int) (ln:Nat) (A8:Int):JW -> DH
 | .s0 DA Ct Cs=>[some (.cells [.ref 1 0]),some (.cells (AF c++AD q++[.ints pos,.msl 2 1 0 ln])),some (.ints DA),some (.cells [.fn 107 1 (L1 [.ref 0 0])]),some (.cells [.i (pos.getD ((c.cells.getD 1 0).toNat) 0)]),some (.cells [.i Ct]),some (.cells [.i Cs]),none,some (.cells [.i A8]),none]
def Sl (n:Nat) (c:AB) (q:AA) (pos:List Int) (ln:Nat) (A8 Cy:Int) (DA:List Int) (Ct Cs:Int):Option JW:=
 (S7 n A8 Cy c q pos ln DA).bind fun Mv=>
  bif Mv.1 then
   if (0<=A8/\ A8<=(IntKind.i64.bits:Int))/\ (0<=Cy/\ Cy<=(IntKind.i64.bits:Int)) then
    some (.s0 Mv.2 (bits .or .i64 Ct (IntKind.i64.wrap (1*2 ^ (A8).toNat))) (bits .or .i64 Cs (IntKind.i64.wrap (1*2 ^ (Cy).toNat))))
   else none
  else
   some (.s0 Mv.2 Ct Cs)
def bk (n:Nat) (c:AB) (q:AA) (pos:List Int) (ln:Nat) (A8 Cy:Int):JW -> Option JW
 | .s0 DA Ct Cs=>Sl n c q pos ln A8 Cy DA Ct Cs
def Sn (n:Nat) (c:AB) (q:AA) (pos:List Int) (ln:Nat) (A8 Cy:Int) (s:JW):Option JW:=bk n c q pos ln A8 Cy s
theorem nm (n:Nat) (c:AB) (q:AA) (pos:List Int) (ln:Nat) (A8:Int) (l B:Nat) (N:Yd 10) (Cy:Int) (s:JW) (r:JW) (h:Sn n c q pos ln A8 Cy s=some r):TA l B N (Cg 10 [] 0 (bo c q pos ln A8 r)) Tryz.f105 45 ⟨AM 69 [(3,.ref 3 0),(9,.ref 5 0),(10,.ref 6 0),(11,.ref 8 0),(45,.it 9),(46,.i Cy)],bo c q pos ln A8 s⟩:=by
 cases s with
 | s0 DA Ct Cs=>
  replace h:Sl n c q pos ln A8 Cy DA Ct Cs=some r:=h;unfold Sl at h;refine ag KV [0,1,2,3,4,5,6,7,8,9] H0 (AM 69 [(3,.ref 3 0),(9,.ref 5 0),(10,.ref 6 0),(11,.ref 8 0),(12,.i Cy)]) (dl c q pos ln DA Ct Cs A8) fun N=>?_
  revert r;apply gO;exact ce oL [0,1,2] (dl c q pos ln DA Ct Cs A8) fun _=>bi 50 (jg kf (gc (gi (jt (jg ki (gi (jt (lF fun p=>rr KV [0,1,2,3,4,5,6,7,8,9] rfl p)))))))) (lF fun p=>rr KV [0,1,2,3,4,5,6,7,8,9] rfl p)
inductive JX where
 | s0 (CT:List Int) (CS CR:Int)
def bp (c:AB) (q:AA) (pos:List Int) (ln:Nat):JX -> DH
 | .s0 CT CS CR=>[some (.cells [.ref 1 0]),some (.cells (AF c++AD q++[.ints pos,.msl 2 1 0 ln])),some (.ints CT),some (.cells [.fn 107 1 (L1 [.ref 0 0])]),some (.cells [.i (pos.getD ((c.cells.getD 1 0).toNat) 0)]),some (.cells [.i CS]),some (.cells [.i CR]),none]
def Sk (n:Nat) (c:AB) (q:AA) (pos:List Int) (ln:Nat) (A8:Int) (CT:List Int) (CS CR:Int):Option JX:=
 if 0<=(pos.getD ((c.cells.getD 1 0).toNat) 0)/\ (pos.getD ((c.cells.getD 1 0).toNat) 0)<9223372036854775808 then
  (Bn (Sn n c q pos ln A8) (Bg (pos.getD ((c.cells.getD 1 0).toNat) 0)) (.s0 CT CS CR)).bind fun Mw=>
   match Mw with
   | .s0 RL RJ RH=>
    some (.s0 RL RJ RH)
 else none
def bg (n:Nat) (c:AB) (q:AA) (pos:List Int) (ln:Nat) (A8:Int):JX -> Option JX
 | .s0 CT CS CR=>Sk n c q pos ln A8 CT CS CR
def So (n:Nat) (c:AB) (q:AA) (pos:List Int) (ln:Nat) (A8:Int) (s:JX):Option JX:=bg n c q pos ln A8 s
theorem nl (n:Nat) (c:AB) (q:AA) (pos:List Int) (ln:Nat) (l B:Nat) (N:Yd 8) (A8:Int) (s:JX) (r:JX) (h:So n c q pos ln A8 s=some r):TA l B N (Cg 8 [] 0 (bp c q pos ln r)) Tryz.f105 42 ⟨AM 69 [(0,.ref 1 0),(3,.ref 3 0),(5,.i (c.cells.getD 0 0)),(6,.i (c.cells.getD 1 0)),(8,.ref 4 0),(9,.ref 5 0),(10,.ref 6 0),(42,.it 7),(43,.i A8)],bp c q pos ln s⟩:=by
 cases s with
 | s0 CT CS CR=>
  replace h:Sk n c q pos ln A8 CT CS CR=some r:=h;unfold Sk at h;refine ag KV [0,1,2,3,4,5,6,7,8] (H0.t) (AM 69 [(3,.ref 3 0),(8,.ref 4 0),(9,.ref 5 0),(10,.ref 6 0),(11,.ref 8 0)]) (dp c q pos ln CT CS CR A8) fun N=>?_
  revert r;apply gO
  exact gn fun Ym=>jc (He Ym (dp c q pos ln CT CS CR A8)) (cn fun Mw Xv=>fun p r h=>by
   refine gs KV [0,1,2,3,4,5,6,7,8,9] p (FK (SQ Tryz.f105 42) 45 []) (AM 69 [(3,.ref 3 0),(9,.ref 5 0),(10,.ref 6 0),(11,.ref 8 0),(45,.it 9)]) (sj c q pos ln CT CS CR A8) ?_;refine r0 9 45 #[46] BK 10 Xv (nm n c q pos ln A8) ?_;cases Mw with
   | s0 RL RJ RH=>
    dsimp only at h
    revert r;apply gO;exact lF fun p=>rr KV [0,1,2,3,4,5,6,7] rfl p)
def bf (n:Nat) (c:AB) (q:AA) (pos:List Int) (ln:Nat) (lost:List Int):Option (Bool×(List Int)):=
 if ((0:Int)<=0/\ 0<(c.cells.length:Int))/\ ((0:Int)<=1/\ 1<(c.cells.length:Int))/\ (0<=(c.cells.getD 0 0)/\ (c.cells.getD 0 0)<(pos.length:Int))/\ (0<=(c.cells.getD 1 0)/\ (c.cells.getD 1 0)<(pos.length:Int))/\ (0<=(pos.getD ((c.cells.getD 0 0).toNat) 0)/\ (pos.getD ((c.cells.getD 0 0).toNat) 0)<9223372036854775808) then
  (Bn (So n c q pos ln) (Bg (pos.getD ((c.cells.getD 0 0).toNat) 0)) (.s0 lost 0 0)).bind fun y1=>
   match y1 with
   | .s0 Cp Co E3=>
    (C5 n (c.cells.getD 0 0) (bits .xor .i64 (-1) Co) c q pos ln Cp).bind fun y2=>
     (C5 n (c.cells.getD 1 0) (bits .xor .i64 (-1) E3) c q pos ln y2).bind fun y3=>
      some (true,y3)
 else none
def WC (n:Nat) (c:AB) (q:AA) (pos:List Int) (ln:Nat) (lost:List Int):Option (Bool×(List Int)):=bf n c q pos ln lost
theorem nk {n:Nat} {c:AB} {q:AA} {pos:List Int} {ln:Nat} {lost:List Int} {r:Bool×(List Int)} (h:WC n c q pos ln lost=some r):EQ 105 [.ref 1 0,.fn 107 1 (L1 [.ref 0 0])] [some (.cells [.ref 1 0]),some (.cells (AF c++AD q++[.ints pos,.msl 2 1 0 ln])),some (.ints lost)] (.bool r.1) [some (.cells [.ref 1 0]),some (.cells (AF c++AD q++[.ints pos,.msl 2 1 0 ln])),some (.ints r.2)] false:=by
 refine ot Tryz.func105 fun B N=>?_
 revert r;apply gO
 exact jg kj (gc (gi (gc (gi (jg kg (gc (gi (gc (gi (jt (gn fun g4=>jc (He g4 (sq c q pos ln lost)) (cn fun y1 A7=>fun p r h=>by
  refine gs KV [0,1,2,3,4,5,6,7] p (FK (AX Tryz.f105) 42 []) (AM 69 [(0,.ref 1 0),(3,.ref 3 0),(5,.i (c.cells.getD 0 0)),(6,.i (c.cells.getD 1 0)),(8,.ref 4 0),(9,.ref 5 0),(10,.ref 6 0),(42,.it 7)]) (sp c q pos ln lost) ?_;refine r0 7 42 #[43] BK 8 A7 (nl n c q pos ln) ?_;cases y1 with
  | s0 Cp Co E3=>
   dsimp only at h
   revert r;apply gO;exact ce FZ [1,2] (sn c q pos ln Cp Co E3) fun y2=>ce FZ [1,2] (sk c q pos ln y2 Co E3) fun _=>lE KV [4] [0,1,2]))))))))))))
def Yx (n:Nat) (c:AB) (q:AA) (pos:List Int) (ln:Nat) (lost:List Int):Option (Bool×(List Int)):=
 (WD n c q pos ln lost).bind fun y1=>
  some (y1.1,y1.2)
def My (n:Nat) (c:AB) (q:AA) (pos:List Int) (ln:Nat) (lost:List Int):Option (Bool×(List Int)):=Yx n c q pos ln lost
theorem xU {n:Nat} {c:AB} {q:AA} {pos:List Int} {ln:Nat} {lost:List Int} {r:Bool×(List Int)} (h:My n c q pos ln lost=some r):EQ 73 [.ref 0 0] [some (.cells (AF c++AD q++[.ints pos,.msl 1 1 0 ln])),some (.ints lost)] (.bool r.1) [some (.cells (AF c++AD q++[.ints pos,.msl 1 1 0 ln])),some (.ints r.2)] false:=by
 unfold My Yx at h;refine ot Tryz.func73 fun B N=>?_
 revert r;apply gO;exact ce nn [2,0,1] [some (.cells (AF c++AD q++[.ints pos,.msl 1 1 0 ln])),some (.ints lost),some (.cells [.ref 0 0])] fun _=>lE AE [2] [0,1]
def WP (n:Nat) (c:AB) (q:AA) (pos:List Int) (ln:Nat) (lost:List Int):Option (Bool×(List Int)):=
 (WC n c q pos ln lost).bind fun y1=>
  some (y1.1,y1.2)
def Ly (n:Nat) (c:AB) (q:AA) (pos:List Int) (ln:Nat) (lost:List Int):Option (Bool×(List Int)):=WP n c q pos ln lost
theorem oK {n:Nat} {c:AB} {q:AA} {pos:List Int} {ln:Nat} {lost:List Int} {r:Bool×(List Int)} (h:Ly n c q pos ln lost=some r):EQ 74 [.ref 0 0] [some (.cells (AF c++AD q++[.ints pos,.msl 1 1 0 ln])),some (.ints lost)] (.bool r.1) [some (.cells (AF c++AD q++[.ints pos,.msl 1 1 0 ln])),some (.ints r.2)] false:=by
 unfold Ly WP at h;refine ot Tryz.func74 fun B N=>?_
 revert r;apply gO;exact ce nk [2,0,1] [some (.cells (AF c++AD q++[.ints pos,.msl 1 1 0 ln])),some (.ints lost),some (.cells [.ref 0 0])] fun _=>lE AE [2] [0,1]
def tD (kd st Av lo hi:Int) (rn:List Int) (rl Au AR Ag:Int):DH:=[some (.cells [.i kd,.nils,.i st,.i Av,.i lo,.i hi,.ints rn,.i rl,.i Au]),some (.cells [.i 0,.i 0,.nils,.nils,.nils]),some (.cells [.i AR,.i Ag,.nils,.nils,.nils]),none]
def tC (kd st Av lo hi:Int) (rn:List Int) (rl Au AR Ag:Int) (D0:Nat) (o3:List Int):DH:=[some (.cells [.i kd,.nils,.i st,.i Av,.i lo,.i hi,.ints rn,.i rl,.i Au]),some (.cells [.i 0,.i 0,.nils,.nils,.nils]),some (.cells [.i AR,.i Ag,.msl 3 1 0 D0,.nils,.nils]),some (.ints o3),none]
def XT (kd:Int) (Bi:Nat) (st Av lo hi:Int) (rn:List Int) (rl Au:Int) (o1:List Int) (AR Ag:Int) (B4:Nat) (o4:List (List Int)):DH:=[some (.cells [.i kd,.msl 1 1 0 Bi,.i st,.i Av,.i lo,.i hi,.ints rn,.i rl,.i Au]),some (.ints o1),some (.cells [.i 0,.i 0,.nils,.nils,.nils]),some (.cells [.i AR,.i Ag,.nils,.msl 4 1 0 B4,.nils]),some (.arr 1 o4.length (Am Ar o4)),none]
def tB (kd:Int) (o1:List Int) (st Av lo hi:Int) (rn:List Int) (rl Au AR Ag:Int) (B4:Nat) (o4:List (List Int)):DH:=[some (.cells [.i kd,.ints o1,.i st,.i Av,.i lo,.i hi,.ints rn,.i rl,.i Au]),none,some (.cells [.i 0,.i 0,.nils,.nils,.nils]),some (.cells [.i AR,.i Ag,.nils,.msl 4 1 0 B4,.nils]),some (.arr 1 o4.length (Am Ar o4))]
def XS (kd:Int) (Bi:Nat) (st Av lo hi:Int) (rn:List Int) (rl Au:Int) (o1:List Int) (AR Ag:Int) (ET B4:Nat) (EC:List Int) (o5:List (List Int)):DH:=[some (.cells [.i kd,.msl 1 1 0 Bi,.i st,.i Av,.i lo,.i hi,.ints rn,.i rl,.i Au]),some (.ints o1),some (.cells [.i 0,.i 0,.nils,.nils,.nils]),some (.cells [.i AR,.i Ag,.msl 4 1 0 ET,.msl 5 1 0 B4,.nils]),some (.ints EC),some (.arr 1 o5.length (Am Ar o5)),none]
def tA (kd:Int) (o1:List Int) (st Av lo hi:Int) (rn:List Int) (rl Au AR Ag:Int) (ET B4:Nat) (EC:List Int) (o5:List (List Int)):DH:=[some (.cells [.i kd,.ints o1,.i st,.i Av,.i lo,.i hi,.ints rn,.i rl,.i Au]),none,some (.cells [.i 0,.i 0,.nils,.nils,.nils]),some (.cells [.i AR,.i Ag,.msl 4 1 0 ET,.msl 5 1 0 B4,.nils]),some (.ints EC),some (.arr 1 o5.length (Am Ar o5))]
inductive Jh where
 | l1
 | l2 (BU:Int) (D0:Nat) (o3:List Int)
 | l3
 | l4 (D0:Nat) (o3:List Int)
 | l5 (AK:Int) (Bi:Nat) (o1:List Int) (B4:Nat) (o4:List (List Int))
 | l6 (AK:Int) (Bi:Nat) (o1:List Int) (ET B4:Nat) (EC:List Int) (o5:List (List Int))
def pc (n:Nat) (self:Jh -> Option AA) (AR Ag kd st Av lo hi:Int) (rn:List Int) (rl Au:Int):Option AA:=
 bif (decide (0<Ag)) then
  self (.l2 1 (([1]:List Int).length) ([1]:List Int))
 else
  self (.l3)
def pb (n:Nat) (self:Jh -> Option AA) (AR Ag kd st Av lo hi:Int) (rn:List Int) (rl Au:Int) (BU:Int) (D0:Nat) (o3:List Int):Option AA:=
 bif (decide (BU<Ag)) then
  if AH (BU+1)/\ ((0=0/\ 1=([(BU+1)]:List Int).length)/\ (0=0/\ D0=o3.length)/\ o3.length+([(BU+1)]:List Int).length<=As) then
   self (.l2 (BU+1) (o3.length+([(BU+1)]:List Int).length) (o3++([(BU+1)]:List Int)))
  else none
 else
  self (.l4 D0 o3)
def pa (n:Nat) (self:Jh -> Option AA) (AR Ag kd st Av lo hi:Int) (rn:List Int) (rl Au:Int):Option AA:=
 bif (decide (0<AR)) then
  bif (decide (1<AR)) then
   self (.l5 1 (([0]:List Int).length) ([0]:List Int) (([([1]:List Int)]:List (List Int)).length) ([([1]:List Int)]:List (List Int)))
  else
   self (.l5 1 (([0]:List Int).length) ([0]:List Int) (([([]:List Int)]:List (List Int)).length) ([([]:List Int)]:List (List Int)))
 else
  some (⟨AR,Ag,([]:List Int),([]:List (List Int)),([(⟨kd,([]:List Int),st,Av,lo,hi,rn,rl,Au⟩:AB)]:List AB)⟩:AA)
def pZ (n:Nat) (self:Jh -> Option AA) (AR Ag kd st Av lo hi:Int) (rn:List Int) (rl Au:Int) (D0:Nat) (o3:List Int):Option AA:=
 bif (decide (0<AR)) then
  bif (decide (1<AR)) then
   self (.l6 1 (([0]:List Int).length) ([0]:List Int) D0 (([([1]:List Int)]:List (List Int)).length) o3 ([([1]:List Int)]:List (List Int)))
  else
   self (.l6 1 (([0]:List Int).length) ([0]:List Int) D0 (([([]:List Int)]:List (List Int)).length) o3 ([([]:List Int)]:List (List Int)))
 else
  if D0=o3.length then
   some (⟨AR,Ag,o3,([]:List (List Int)),([(⟨kd,([]:List Int),st,Av,lo,hi,rn,rl,Au⟩:AB)]:List AB)⟩:AA)
  else none
def pY (n:Nat) (self:Jh -> Option AA) (AR Ag kd st Av lo hi:Int) (rn:List Int) (rl Au:Int) (AK:Int) (Bi:Nat) (o1:List Int) (B4:Nat) (o4:List (List Int)):Option AA:=
 bif (decide (AK<AR)) then
  bif (decide (AK>0)) then
   if AH (AK-1)/\ ((0=0/\ 1=([(AK-1)]:List Int).length)/\ 0<([(AK-1)]:List Int).length/\ ([(AK-1)]:List Int).length<=As)/\ AH (AK+1) then
    bif (decide ((AK+1)<AR)) then
     if (0=0/\ 1=([(AK+1)]:List Int).length)/\ (0=0/\ ([(AK-1)]:List Int).length=([(AK-1)]:List Int).length)/\ ([(AK-1)]:List Int).length+([(AK+1)]:List Int).length<=As then
      if ([(AK-1)]:List Int).length+([(AK+1)]:List Int).length=(([(AK-1)]:List Int)++([(AK+1)]:List Int)).length then
       if B4=o4.length/\ o4.length+([([(AK-1)]:List Int)++([(AK+1)]:List Int)]:List (List Int)).length<=As/\ ((0=0/\ 1=([AK]:List Int).length)/\ (0=0/\ Bi=o1.length)/\ o1.length+([AK]:List Int).length<=As)/\ AH (AK+1) then
        self (.l5 (AK+1) (o1.length+([AK]:List Int).length) (o1++([AK]:List Int)) (o4.length+([([(AK-1)]:List Int)++([(AK+1)]:List Int)]:List (List Int)).length) (o4++([([(AK-1)]:List Int)++([(AK+1)]:List Int)]:List (List Int))))
       else none
      else none
     else none
    else
     if B4=o4.length/\ o4.length+([([(AK-1)]:List Int)]:List (List Int)).length<=As/\ ((0=0/\ 1=([AK]:List Int).length)/\ (0=0/\ Bi=o1.length)/\ o1.length+([AK]:List Int).length<=As)/\ AH (AK+1) then
      self (.l5 (AK+1) (o1.length+([AK]:List Int).length) (o1++([AK]:List Int)) (o4.length+([([(AK-1)]:List Int)]:List (List Int)).length) (o4++([([(AK-1)]:List Int)]:List (List Int))))
     else none
   else none
  else
   if AH (AK+1) then
    bif (decide ((AK+1)<AR)) then
     if (0=0/\ 1=([(AK+1)]:List Int).length)/\ 0<([(AK+1)]:List Int).length/\ ([(AK+1)]:List Int).length<=As then
      if B4=o4.length/\ o4.length+([([(AK+1)]:List Int)]:List (List Int)).length<=As/\ ((0=0/\ 1=([AK]:List Int).length)/\ (0=0/\ Bi=o1.length)/\ o1.length+([AK]:List Int).length<=As)/\ AH (AK+1) then
       self (.l5 (AK+1) (o1.length+([AK]:List Int).length) (o1++([AK]:List Int)) (o4.length+([([(AK+1)]:List Int)]:List (List Int)).length) (o4++([([(AK+1)]:List Int)]:List (List Int))))
      else none
     else none
    else
     if B4=o4.length/\ o4.length+([([]:List Int)]:List (List Int)).length<=As/\ ((0=0/\ 1=([AK]:List Int).length)/\ (0=0/\ Bi=o1.length)/\ o1.length+([AK]:List Int).length<=As) then
      self (.l5 (AK+1) (o1.length+([AK]:List Int).length) (o1++([AK]:List Int)) (o4.length+([([]:List Int)]:List (List Int)).length) (o4++([([]:List Int)]:List (List Int))))
     else none
   else none
 else
  if Bi=o1.length then
   if B4=o4.length then
    some (⟨AR,Ag,([]:List Int),o4,([(⟨kd,o1,st,Av,lo,hi,rn,rl,Au⟩:AB)]:List AB)⟩:AA)
   else none
  else none
def pX (n:Nat) (self:Jh -> Option AA) (AR Ag kd st Av lo hi:Int) (rn:List Int) (rl Au:Int) (AK:Int) (Bi:Nat) (o1:List Int) (ET B4:Nat) (EC:List Int) (o5:List (List Int)):Option AA:=
 bif (decide (AK<AR)) then
  bif (decide (AK>0)) then
   if AH (AK-1)/\ ((0=0/\ 1=([(AK-1)]:List Int).length)/\ 0<([(AK-1)]:List Int).length/\ ([(AK-1)]:List Int).length<=As)/\ AH (AK+1) then
    bif (decide ((AK+1)<AR)) then
     if (0=0/\ 1=([(AK+1)]:List Int).length)/\ (0=0/\ ([(AK-1)]:List Int).length=([(AK-1)]:List Int).length)/\ ([(AK-1)]:List Int).length+([(AK+1)]:List Int).length<=As then
      if ([(AK-1)]:List Int).length+([(AK+1)]:List Int).length=(([(AK-1)]:List Int)++([(AK+1)]:List Int)).length then
       if B4=o5.length/\ o5.length+([([(AK-1)]:List Int)++([(AK+1)]:List Int)]:List (List Int)).length<=As/\ ((0=0/\ 1=([AK]:List Int).length)/\ (0=0/\ Bi=o1.length)/\ o1.length+([AK]:List Int).length<=As)/\ AH (AK+1) then
        self (.l6 (AK+1) (o1.length+([AK]:List Int).length) (o1++([AK]:List Int)) ET (o5.length+([([(AK-1)]:List Int)++([(AK+1)]:List Int)]:List (List Int)).length) EC (o5++([([(AK-1)]:List Int)++([(AK+1)]:List Int)]:List (List Int))))
       else none
      else none
     else none
    else
     if B4=o5.length/\ o5.length+([([(AK-1)]:List Int)]:List (List Int)).length<=As/\ ((0=0/\ 1=([AK]:List Int).length)/\ (0=0/\ Bi=o1.length)/\ o1.length+([AK]:List Int).length<=As)/\ AH (AK+1) then
      self (.l6 (AK+1) (o1.length+([AK]:List Int).length) (o1++([AK]:List Int)) ET (o5.length+([([(AK-1)]:List Int)]:List (List Int)).length) EC (o5++([([(AK-1)]:List Int)]:List (List Int))))
     else none
   else none
  else
   if AH (AK+1) then
    bif (decide ((AK+1)<AR)) then
     if (0=0/\ 1=([(AK+1)]:List Int).length)/\ 0<([(AK+1)]:List Int).length/\ ([(AK+1)]:List Int).length<=As then
      if B4=o5.length/\ o5.length+([([(AK+1)]:List Int)]:List (List Int)).length<=As/\ ((0=0/\ 1=([AK]:List Int).length)/\ (0=0/\ Bi=o1.length)/\ o1.length+([AK]:List Int).length<=As)/\ AH (AK+1) then
       self (.l6 (AK+1) (o1.length+([AK]:List Int).length) (o1++([AK]:List Int)) ET (o5.length+([([(AK+1)]:List Int)]:List (List Int)).length) EC (o5++([([(AK+1)]:List Int)]:List (List Int))))
      else none
     else none
    else
     if B4=o5.length/\ o5.length+([([]:List Int)]:List (List Int)).length<=As/\ ((0=0/\ 1=([AK]:List Int).length)/\ (0=0/\ Bi=o1.length)/\ o1.length+([AK]:List Int).length<=As) then
      self (.l6 (AK+1) (o1.length+([AK]:List Int).length) (o1++([AK]:List Int)) ET (o5.length+([([]:List Int)]:List (List Int)).length) EC (o5++([([]:List Int)]:List (List Int))))
     else none
   else none
 else
  if Bi=o1.length then
   if ET=EC.length/\ B4=o5.length then
    some (⟨AR,Ag,EC,o5,([(⟨kd,o1,st,Av,lo,hi,rn,rl,Au⟩:AB)]:List AB)⟩:AA)
   else none
  else none
def pd (n:Nat) (self:Jh -> Option AA) (AR Ag kd st Av lo hi:Int) (rn:List Int) (rl Au:Int):Option AA:=
 self (.l1)
def Kn (AR Ag kd st Av lo hi:Int) (rn:List Int) (rl Au:Int):Nat -> Jh -> Option AA
 | 0,_=>none
 | n+1,.l1=>pc n (Kn AR Ag kd st Av lo hi rn rl Au n) AR Ag kd st Av lo hi rn rl Au
 | n+1,.l2 BU D0 o3=>pb n (Kn AR Ag kd st Av lo hi rn rl Au n) AR Ag kd st Av lo hi rn rl Au BU D0 o3
 | n+1,.l3=>pa n (Kn AR Ag kd st Av lo hi rn rl Au n) AR Ag kd st Av lo hi rn rl Au
 | n+1,.l4 D0 o3=>pZ n (Kn AR Ag kd st Av lo hi rn rl Au n) AR Ag kd st Av lo hi rn rl Au D0 o3
 | n+1,.l5 AK Bi o1 B4 o4=>pY n (Kn AR Ag kd st Av lo hi rn rl Au n) AR Ag kd st Av lo hi rn rl Au AK Bi o1 B4 o4
 | n+1,.l6 AK Bi o1 ET B4 EC o5=>pX n (Kn AR Ag kd st Av lo hi rn rl Au n) AR Ag kd st Av lo hi rn rl Au AK Bi o1 ET B4 EC o5
def GJ (n:Nat) (AR Ag kd st Av lo hi:Int) (rn:List Int) (rl Au:Int):Option AA:=pd n (Kn AR Ag kd st Av lo hi rn rl Au n) AR Ag kd st Av lo hi rn rl Au
def pf (n B:Nat) (N:Yd 0) (AR Ag kd st Av lo hi:Int) (rn:List Int) (rl Au:Int) (r:AA):Jh -> Prop
 | .l1=>∀ m0:Nat,n<=m0 -> TW B N (FQ Tryz.f51 0 (.agg 5 (L1 (AD r))) []) (A2 m0 (BA (AX Tryz.f51) 0 [])) ⟨AM 63 [(0,.i AR),(5,.ref 0 0),(6,.ref 1 0),(7,.ref 2 0),(14,.i Ag),(15,.i 0)],[some (.cells [.i kd,.nils,.i st,.i Av,.i lo,.i hi,.ints rn,.i rl,.i Au]),some (.cells [.i 0,.i 0,.nils,.nils,.nils]),some (.cells [.i AR,.i Ag,.nils,.nils,.nils])]⟩
 | .l2 BU D0 o3=>∀ m0:Nat,n<=m0 -> TW B N (FQ Tryz.f51 0 (.agg 5 (L1 (AD r))) []) (A2 m0 (BA (AX Tryz.f51) 0 [])) ⟨AM 63 [(0,.i AR),(5,.ref 0 0),(6,.ref 1 0),(7,.ref 2 0),(14,.i Ag),(15,.i BU)],[some (.cells [.i kd,.nils,.i st,.i Av,.i lo,.i hi,.ints rn,.i rl,.i Au]),some (.cells [.i 0,.i 0,.nils,.nils,.nils]),some (.cells [.i AR,.i Ag,.msl 3 1 0 D0,.nils,.nils]),some (.ints o3)]⟩
 | .l3=>∀ m0:Nat,n<=m0 -> TW B N (FQ Tryz.f51 0 (.agg 5 (L1 (AD r))) []) (A2 m0 (BA (AX Tryz.f51) 2 [])) ⟨AM 63 [(0,.i AR),(5,.ref 0 0),(6,.ref 1 0),(7,.ref 2 0),(26,.i AR),(27,.i 0)],[some (.cells [.i kd,.nils,.i st,.i Av,.i lo,.i hi,.ints rn,.i rl,.i Au]),some (.cells [.i 0,.i 0,.nils,.nils,.nils]),some (.cells [.i AR,.i Ag,.nils,.nils,.nils])]⟩
 | .l4 D0 o3=>∀ m0:Nat,n<=m0 -> TW B N (FQ Tryz.f51 0 (.agg 5 (L1 (AD r))) []) (A2 m0 (BA (AX Tryz.f51) 2 [])) ⟨AM 63 [(0,.i AR),(5,.ref 0 0),(6,.ref 1 0),(7,.ref 2 0),(26,.i AR),(27,.i 0)],[some (.cells [.i kd,.nils,.i st,.i Av,.i lo,.i hi,.ints rn,.i rl,.i Au]),some (.cells [.i 0,.i 0,.nils,.nils,.nils]),some (.cells [.i AR,.i Ag,.msl 3 1 0 D0,.nils,.nils]),some (.ints o3)]⟩
 | .l5 AK Bi o1 B4 o4=>∀ m0:Nat,n<=m0 -> TW B N (FQ Tryz.f51 0 (.agg 5 (L1 (AD r))) []) (A2 m0 (BA (AX Tryz.f51) 2 [])) ⟨AM 63 [(0,.i AR),(5,.ref 0 0),(6,.ref 2 0),(7,.ref 3 0),(26,.i AR),(27,.i AK)],[some (.cells [.i kd,.msl 1 1 0 Bi,.i st,.i Av,.i lo,.i hi,.ints rn,.i rl,.i Au]),some (.ints o1),some (.cells [.i 0,.i 0,.nils,.nils,.nils]),some (.cells [.i AR,.i Ag,.nils,.msl 4 1 0 B4,.nils]),some (.arr 1 o4.length (Am Ar o4))]⟩
 | .l6 AK Bi o1 ET B4 EC o5=>∀ m0:Nat,n<=m0 -> TW B N (FQ Tryz.f51 0 (.agg 5 (L1 (AD r))) []) (A2 m0 (BA (AX Tryz.f51) 2 [])) ⟨AM 63 [(0,.i AR),(5,.ref 0 0),(6,.ref 2 0),(7,.ref 3 0),(26,.i AR),(27,.i AK)],[some (.cells [.i kd,.msl 1 1 0 Bi,.i st,.i Av,.i lo,.i hi,.ints rn,.i rl,.i Au]),some (.ints o1),some (.cells [.i 0,.i 0,.nils,.nils,.nils]),some (.cells [.i AR,.i Ag,.msl 4 1 0 ET,.msl 5 1 0 B4,.nils]),some (.ints EC),some (.arr 1 o5.length (Am Ar o5))]⟩
theorem pg (B:Nat) (N:Yd 0) (AR Ag kd st Av lo hi:Int) (rn:List Int) (rl Au:Int):Al (Kn AR Ag kd st Av lo hi rn rl Au) (pf · B N AR Ag kd st Av lo hi rn rl Au):=ia (fun _=>rfl) fun n AG pt r h=>by
 cases pt
 case l1=>
  intro m0 AC;refine rd AC fun m0 AC=>?_
  revert r;apply gO;exact bi 16 (jg (by decide:(0=0/\ 1=([1]:List Int).length)/\ 0<([1]:List Int).length/\ ([1]:List Int).length<=As) (jt (lG AE [0,1,2,4] (AG _ _ · m0 AC)))) (lN AE [0,1,2] (AG _ _ · n Nat.le.refl))
 case l2 BU D0 o3=>
  intro m0 AC;refine rd AC fun m0 AC=>?_
  revert r;apply gO;exact bi 16 (gc (gn fun g0=>jw 21 g0 (gi (jt (jw 25 g0 (lG AE [0,1,2,5] (AG _ _ · m0 AC))))))) (lN AE [0,1,2,3] (AG _ _ · n Nat.le.refl))
 case l3=>
  intro m0 AC;refine rd AC fun m0 AC=>?_
  revert r;apply gO
  exact bi 28 (bi 40 (jg (by decide:(0=0/\ 1=([1]:List Int).length)/\ 0<([1]:List Int).length/\ ([1]:List Int).length<=As) (fun p r h=>by
   refine gz (AI 15 AE) [0,1,2,4] p [3] (H0.g (Eq.refl (([1]:List Int).length))) (CP (AX Tryz.f51) 15 [m0]) (AM 63 [(0,.i AR),(5,.ref 0 0),(6,.ref 1 0),(7,.ref 2 0),(9,.i 0),(10,.ints ([1]:List Int)),(26,.i AR),(27,.i 0)]) (tD kd st Av lo hi rn rl Au AR Ag) ?_;revert r;apply gO;exact ja 49 4 1 (DN (c:=Ar) (L:=([([1]:List Int)]:List (List Int))) (vals:=[.ints ([1]:List Int)]) rfl ⟨⟨_,rfl,⟨AL,trivial⟩⟩,trivial⟩) (jg (And.intro (And.intro (And.intro (Eq.refl 0) (by decide:1=([([1]:List Int)]:List (List Int)).length)) (Fu Ar ([([1]:List Int)]:List (List Int)) (([([1]:List Int)]:List (List Int)).length) 1 fun _=>⟨rfl,rfl⟩)) (And.intro (by decide:0<([([1]:List Int)]:List (List Int)).length) (by decide:([([1]:List Int)]:List (List Int)).length<=As))) (jt (jg (by decide:(0=0/\ 1=([0]:List Int).length)/\ 0<([0]:List Int).length/\ ([0]:List Int).length<=As) (jt (lG AE [0,7,1,2,5] (AG _ _ · m0 AC)))))))) (ja 49 3 1 (DN (c:=Ar) (L:=([([]:List Int)]:List (List Int))) (vals:=[.nils]) rfl ⟨⟨_,rfl,⟨AT.ints_nil,trivial⟩⟩,trivial⟩) (jg (And.intro (And.intro (And.intro (Eq.refl 0) (by decide:1=([([]:List Int)]:List (List Int)).length)) (Fu Ar ([([]:List Int)]:List (List Int)) (([([]:List Int)]:List (List Int)).length) 1 fun _=>⟨rfl,rfl⟩)) (And.intro (by decide:0<([([]:List Int)]:List (List Int)).length) (by decide:([([]:List Int)]:List (List Int)).length<=As))) (jt (jg (by decide:(0=0/\ 1=([0]:List Int).length)/\ 0<([0]:List Int).length/\ ([0]:List Int).length<=As) (jt (lG AE [0,6,1,2,4] (AG _ _ · m0 AC)))))))) (ja 60 3 9 (DN (c:=AF) (L:=([(⟨kd,([]:List Int),st,Av,lo,hi,rn,rl,Au⟩:AB)]:List AB)) (vals:=[.agg 9 (L1 [.i kd,.nils,.i st,.i Av,.i lo,.i hi,.ints rn,.i rl,.i Au])]) rfl ⟨⟨_,rfl,⟨AL,AT.ints_nil,AL,AL,AL,AL,AL,AL,AL,trivial⟩⟩,trivial⟩) (jt (jt (lF fun p=>el AE [6] [1,3] p [1] (H0.g (Eq.refl 1)) [.agg 5 (L1 [.i AR,.i Ag,.nils,.nils,.sl 9 (([(⟨kd,([]:List Int),st,Av,lo,hi,rn,rl,Au⟩:AB)]:List AB).length) (Am AF ([(⟨kd,([]:List Int),st,Av,lo,hi,rn,rl,Au⟩:AB)]:List AB))])] (AT.aggL (l:=[.i AR,.i Ag,.nils,.nils,.sl 9 (([(⟨kd,([]:List Int),st,Av,lo,hi,rn,rl,Au⟩:AB)]:List AB).length) (Am AF ([(⟨kd,([]:List Int),st,Av,lo,hi,rn,rl,Au⟩:AB)]:List AB))]) (l':=[.i AR,.i Ag,.ints ([]:List Int),.sl 1 (([]:List (List Int)).length) (Am Ar ([]:List (List Int))),.sl 9 (([(⟨kd,([]:List Int),st,Av,lo,hi,rn,rl,Au⟩:AB)]:List AB).length) (Am AF ([(⟨kd,([]:List Int),st,Av,lo,hi,rn,rl,Au⟩:AB)]:List AB))]) rfl ⟨AL,AL,AT.ints_nil,(AT.sl_nil _ _),AL,trivial⟩)))))
 case l4 D0 o3=>
  intro m0 AC;refine rd AC fun m0 AC=>?_
  revert r;apply gO
  exact bi 28 (bi 40 (jg (by decide:(0=0/\ 1=([1]:List Int).length)/\ 0<([1]:List Int).length/\ ([1]:List Int).length<=As) (fun p r h=>by
   refine gz (AI 15 AE) [0,1,2,3,5] p [4] (H0.g (Eq.refl (([1]:List Int).length))) (CP (AX Tryz.f51) 15 [m0]) (AM 63 [(0,.i AR),(5,.ref 0 0),(6,.ref 1 0),(7,.ref 2 0),(9,.i 0),(10,.ints ([1]:List Int)),(26,.i AR),(27,.i 0)]) (tC kd st Av lo hi rn rl Au AR Ag D0 o3) ?_;revert r;apply gO;exact ja 49 5 1 (DN (c:=Ar) (L:=([([1]:List Int)]:List (List Int))) (vals:=[.ints ([1]:List Int)]) rfl ⟨⟨_,rfl,⟨AL,trivial⟩⟩,trivial⟩) (jg (And.intro (And.intro (And.intro (Eq.refl 0) (by decide:1=([([1]:List Int)]:List (List Int)).length)) (Fu Ar ([([1]:List Int)]:List (List Int)) (([([1]:List Int)]:List (List Int)).length) 1 fun _=>⟨rfl,rfl⟩)) (And.intro (by decide:0<([([1]:List Int)]:List (List Int)).length) (by decide:([([1]:List Int)]:List (List Int)).length<=As))) (jt (jg (by decide:(0=0/\ 1=([0]:List Int).length)/\ 0<([0]:List Int).length/\ ([0]:List Int).length<=As) (jt (lG AE [0,8,1,2,3,6] (AG _ _ · m0 AC)))))))) (ja 49 4 1 (DN (c:=Ar) (L:=([([]:List Int)]:List (List Int))) (vals:=[.nils]) rfl ⟨⟨_,rfl,⟨AT.ints_nil,trivial⟩⟩,trivial⟩) (jg (And.intro (And.intro (And.intro (Eq.refl 0) (by decide:1=([([]:List Int)]:List (List Int)).length)) (Fu Ar ([([]:List Int)]:List (List Int)) (([([]:List Int)]:List (List Int)).length) 1 fun _=>⟨rfl,rfl⟩)) (And.intro (by decide:0<([([]:List Int)]:List (List Int)).length) (by decide:([([]:List Int)]:List (List Int)).length<=As))) (jt (jg (by decide:(0=0/\ 1=([0]:List Int).length)/\ 0<([0]:List Int).length/\ ([0]:List Int).length<=As) (jt (lG AE [0,7,1,2,3,5] (AG _ _ · m0 AC)))))))) (ja 60 4 9 (DN (c:=AF) (L:=([(⟨kd,([]:List Int),st,Av,lo,hi,rn,rl,Au⟩:AB)]:List AB)) (vals:=[.agg 9 (L1 [.i kd,.nils,.i st,.i Av,.i lo,.i hi,.ints rn,.i rl,.i Au])]) rfl ⟨⟨_,rfl,⟨AL,AT.ints_nil,AL,AL,AL,AL,AL,AL,AL,trivial⟩⟩,trivial⟩) (jt (jt (gn fun g0=>lF fun p=>el AE [6] [1,3,4] p [1,2] (H0.g g0 |>.g (Eq.refl 1)) [.agg 5 (L1 [.i AR,.i Ag,.ints o3,.nils,.sl 9 (([(⟨kd,([]:List Int),st,Av,lo,hi,rn,rl,Au⟩:AB)]:List AB).length) (Am AF ([(⟨kd,([]:List Int),st,Av,lo,hi,rn,rl,Au⟩:AB)]:List AB))])] (AT.aggL (l:=[.i AR,.i Ag,.ints o3,.nils,.sl 9 (([(⟨kd,([]:List Int),st,Av,lo,hi,rn,rl,Au⟩:AB)]:List AB).length) (Am AF ([(⟨kd,([]:List Int),st,Av,lo,hi,rn,rl,Au⟩:AB)]:List AB))]) (l':=[.i AR,.i Ag,.ints o3,.sl 1 (([]:List (List Int)).length) (Am Ar ([]:List (List Int))),.sl 9 (([(⟨kd,([]:List Int),st,Av,lo,hi,rn,rl,Au⟩:AB)]:List AB).length) (Am AF ([(⟨kd,([]:List Int),st,Av,lo,hi,rn,rl,Au⟩:AB)]:List AB))]) rfl ⟨AL,AL,AL,(AT.sl_nil _ _),AL,trivial⟩)))))
 case l5 AK Bi o1 B4 o4=>
  intro m0 AC;refine rd AC fun m0 AC=>?_
  revert r;apply gO
  exact bi 28 (bi 31 (gc (gw 34 (gc (gi (gn fun g2=>jw 38 g2 (bi 40 (jw 43 g2 (gi (gn fun g4=>fun p r h=>by
   refine gz (AI 15 AE) [0,1,2,3,4,8] p [5] (H0.g g4) (CP (AX Tryz.f51) 15 [m0]) (AM 63 [(0,.i AR),(5,.ref 0 0),(6,.ref 2 0),(7,.ref 3 0),(9,.i AK),(10,.ints (([(AK-1)]:List Int)++([(AK+1)]:List Int))),(26,.i AR),(27,.i AK)]) (XT kd Bi st Av lo hi rn rl Au o1 AR Ag B4 o4) ?_;revert r;apply gO;exact ja 49 6 1 (DN (c:=Ar) (L:=([([(AK-1)]:List Int)++([(AK+1)]:List Int)]:List (List Int))) (vals:=[.ints (([(AK-1)]:List Int)++([(AK+1)]:List Int))]) rfl ⟨⟨_,rfl,⟨AL,trivial⟩⟩,trivial⟩) (gc (gn fun g5=>gc (gn fun g6=>jg (And.intro (And.intro (And.intro (Eq.refl 0) (Eq.refl 1)) (Fu Ar ([([(AK-1)]:List Int)++([(AK+1)]:List Int)]:List (List Int)) (([([(AK-1)]:List Int)++([(AK+1)]:List Int)]:List (List Int)).length) 1 fun _=>⟨rfl,rfl⟩)) (And.intro (And.intro (Eq.refl 0) g5) g6)) (ja 50 7 1 (IW (enc:=(I0 Ar)) (L:=o4) (L':=([([(AK-1)]:List Int)++([(AK+1)]:List Int)]:List (List Int))) rfl rfl fun _ _ _ _=>AL) (jt (gc (gi (jt (gw 58 (lG AE [0,9,2,3,7] (AG _ _ · m0 AC)))))))))))))) (fun p r h=>by
   refine gz (AI 15 AE) [0,1,2,3,4,6] p [5] (H0.g (Eq.refl (([(AK-1)]:List Int).length))) (CP (AX Tryz.f51) 15 [m0]) (AM 63 [(0,.i AR),(5,.ref 0 0),(6,.ref 2 0),(7,.ref 3 0),(9,.i AK),(10,.ints ([(AK-1)]:List Int)),(26,.i AR),(27,.i AK)]) (XT kd Bi st Av lo hi rn rl Au o1 AR Ag B4 o4) ?_;revert r;apply gO;exact ja 49 6 1 (DN (c:=Ar) (L:=([([(AK-1)]:List Int)]:List (List Int))) (vals:=[.ints ([(AK-1)]:List Int)]) rfl ⟨⟨_,rfl,⟨AL,trivial⟩⟩,trivial⟩) (gc (gn fun g3=>gc (gn fun g4=>jg (And.intro (And.intro (And.intro (Eq.refl 0) (Eq.refl 1)) (Fu Ar ([([(AK-1)]:List Int)]:List (List Int)) (([([(AK-1)]:List Int)]:List (List Int)).length) 1 fun _=>⟨rfl,rfl⟩)) (And.intro (And.intro (Eq.refl 0) g3) g4)) (ja 50 7 1 (IW (enc:=(I0 Ar)) (L:=o4) (L':=([([(AK-1)]:List Int)]:List (List Int))) rfl rfl fun _ _ _ _=>AL) (jt (gc (gi (jt (gw 58 (lG AE [0,9,2,3,7] (AG _ _ · m0 AC)))))))))))))))))) (gn fun g0=>jw 38 g0 (bi 40 (jw 43 g0 (gi (fun p r h=>by
   refine gz (AI 15 AE) [0,1,2,3,4,6] p [5] (H0.g (Eq.refl (([(AK+1)]:List Int).length))) (CP (AX Tryz.f51) 15 [m0]) (AM 63 [(0,.i AR),(5,.ref 0 0),(6,.ref 2 0),(7,.ref 3 0),(9,.i AK),(10,.ints ([(AK+1)]:List Int)),(26,.i AR),(27,.i AK)]) (XT kd Bi st Av lo hi rn rl Au o1 AR Ag B4 o4) ?_;revert r;apply gO;exact ja 49 6 1 (DN (c:=Ar) (L:=([([(AK+1)]:List Int)]:List (List Int))) (vals:=[.ints ([(AK+1)]:List Int)]) rfl ⟨⟨_,rfl,⟨AL,trivial⟩⟩,trivial⟩) (gc (gn fun g2=>gc (gn fun g3=>jg (And.intro (And.intro (And.intro (Eq.refl 0) (Eq.refl 1)) (Fu Ar ([([(AK+1)]:List Int)]:List (List Int)) (([([(AK+1)]:List Int)]:List (List Int)).length) 1 fun _=>⟨rfl,rfl⟩)) (And.intro (And.intro (Eq.refl 0) g2) g3)) (ja 50 7 1 (IW (enc:=(I0 Ar)) (L:=o4) (L':=([([(AK+1)]:List Int)]:List (List Int))) rfl rfl fun _ _ _ _=>AL) (jt (gc (gi (jt (gw 58 (lG AE [0,9,2,3,7] (AG _ _ · m0 AC)))))))))))))) (ja 49 5 1 (DN (c:=Ar) (L:=([([]:List Int)]:List (List Int))) (vals:=[.nils]) rfl ⟨⟨_,rfl,⟨AT.ints_nil,trivial⟩⟩,trivial⟩) (gc (gn fun g1=>gc (gn fun g2=>jg (And.intro (And.intro (And.intro (Eq.refl 0) (by decide:1=([([]:List Int)]:List (List Int)).length)) (Fu Ar ([([]:List Int)]:List (List Int)) (([([]:List Int)]:List (List Int)).length) 1 fun _=>⟨rfl,rfl⟩)) (And.intro (And.intro (Eq.refl 0) g1) g2)) (ja 50 6 1 (IW (enc:=(I0 Ar)) (L:=o4) (L':=([([]:List Int)]:List (List Int))) rfl rfl fun _ _ _ _=>AL) (jt (gi (jt (jw 58 g0 (lG AE [0,8,2,3,6] (AG _ _ · m0 AC)))))))))))))) (gn fun g0=>fun p r h=>by
   refine gz (AI 18 AE) [0,1,2,3,4] p [1] (H0.g g0) (CP (AX Tryz.f51) 18 []) (AM 63 [(5,.ref 0 0),(6,.ref 2 0),(7,.ref 3 0)]) (tB kd o1 st Av lo hi rn rl Au AR Ag B4 o4) ?_;revert r;apply gO;exact ja 60 5 9 (DN (c:=AF) (L:=([(⟨kd,o1,st,Av,lo,hi,rn,rl,Au⟩:AB)]:List AB)) (vals:=[.agg 9 (L1 [.i kd,.ints o1,.i st,.i Av,.i lo,.i hi,.ints rn,.i rl,.i Au])]) rfl ⟨⟨_,rfl,⟨AL,AL,AL,AL,AL,AL,AL,AL,AL,trivial⟩⟩,trivial⟩) (jt (jt (gn fun g1=>lF fun p=>el AE [6] [2,4,5] p [1,2] (H0.g g1 |>.g (Eq.refl 1)) [.agg 5 (L1 [.i AR,.i Ag,.nils,.sl 1 o4.length (Am Ar o4),.sl 9 (([(⟨kd,o1,st,Av,lo,hi,rn,rl,Au⟩:AB)]:List AB).length) (Am AF ([(⟨kd,o1,st,Av,lo,hi,rn,rl,Au⟩:AB)]:List AB))])] (AT.aggL (l:=[.i AR,.i Ag,.nils,.sl 1 o4.length (Am Ar o4),.sl 9 (([(⟨kd,o1,st,Av,lo,hi,rn,rl,Au⟩:AB)]:List AB).length) (Am AF ([(⟨kd,o1,st,Av,lo,hi,rn,rl,Au⟩:AB)]:List AB))]) (l':=[.i AR,.i Ag,.ints ([]:List Int),.sl 1 o4.length (Am Ar o4),.sl 9 (([(⟨kd,o1,st,Av,lo,hi,rn,rl,Au⟩:AB)]:List AB).length) (Am AF ([(⟨kd,o1,st,Av,lo,hi,rn,rl,Au⟩:AB)]:List AB))]) rfl ⟨AL,AL,AT.ints_nil,AL,AL,trivial⟩)))))
 case l6 AK Bi o1 ET B4 EC o5=>
  intro m0 AC;refine rd AC fun m0 AC=>?_
  revert r;apply gO
  exact bi 28 (bi 31 (gc (gw 34 (gc (gi (gn fun g2=>jw 38 g2 (bi 40 (jw 43 g2 (gi (gn fun g4=>fun p r h=>by
   refine gz (AI 15 AE) [0,1,2,3,4,5,9] p [6] (H0.g g4) (CP (AX Tryz.f51) 15 [m0]) (AM 63 [(0,.i AR),(5,.ref 0 0),(6,.ref 2 0),(7,.ref 3 0),(9,.i AK),(10,.ints (([(AK-1)]:List Int)++([(AK+1)]:List Int))),(26,.i AR),(27,.i AK)]) (XS kd Bi st Av lo hi rn rl Au o1 AR Ag ET B4 EC o5) ?_;revert r;apply gO;exact ja 49 7 1 (DN (c:=Ar) (L:=([([(AK-1)]:List Int)++([(AK+1)]:List Int)]:List (List Int))) (vals:=[.ints (([(AK-1)]:List Int)++([(AK+1)]:List Int))]) rfl ⟨⟨_,rfl,⟨AL,trivial⟩⟩,trivial⟩) (gc (gn fun g5=>gc (gn fun g6=>jg (And.intro (And.intro (And.intro (Eq.refl 0) (Eq.refl 1)) (Fu Ar ([([(AK-1)]:List Int)++([(AK+1)]:List Int)]:List (List Int)) (([([(AK-1)]:List Int)++([(AK+1)]:List Int)]:List (List Int)).length) 1 fun _=>⟨rfl,rfl⟩)) (And.intro (And.intro (Eq.refl 0) g5) g6)) (ja 50 8 1 (IW (enc:=(I0 Ar)) (L:=o5) (L':=([([(AK-1)]:List Int)++([(AK+1)]:List Int)]:List (List Int))) rfl rfl fun _ _ _ _=>AL) (jt (gc (gi (jt (gw 58 (lG AE [0,10,2,3,4,8] (AG _ _ · m0 AC)))))))))))))) (fun p r h=>by
   refine gz (AI 15 AE) [0,1,2,3,4,5,7] p [6] (H0.g (Eq.refl (([(AK-1)]:List Int).length))) (CP (AX Tryz.f51) 15 [m0]) (AM 63 [(0,.i AR),(5,.ref 0 0),(6,.ref 2 0),(7,.ref 3 0),(9,.i AK),(10,.ints ([(AK-1)]:List Int)),(26,.i AR),(27,.i AK)]) (XS kd Bi st Av lo hi rn rl Au o1 AR Ag ET B4 EC o5) ?_;revert r;apply gO;exact ja 49 7 1 (DN (c:=Ar) (L:=([([(AK-1)]:List Int)]:List (List Int))) (vals:=[.ints ([(AK-1)]:List Int)]) rfl ⟨⟨_,rfl,⟨AL,trivial⟩⟩,trivial⟩) (gc (gn fun g3=>gc (gn fun g4=>jg (And.intro (And.intro (And.intro (Eq.refl 0) (Eq.refl 1)) (Fu Ar ([([(AK-1)]:List Int)]:List (List Int)) (([([(AK-1)]:List Int)]:List (List Int)).length) 1 fun _=>⟨rfl,rfl⟩)) (And.intro (And.intro (Eq.refl 0) g3) g4)) (ja 50 8 1 (IW (enc:=(I0 Ar)) (L:=o5) (L':=([([(AK-1)]:List Int)]:List (List Int))) rfl rfl fun _ _ _ _=>AL) (jt (gc (gi (jt (gw 58 (lG AE [0,10,2,3,4,8] (AG _ _ · m0 AC)))))))))))))))))) (gn fun g0=>jw 38 g0 (bi 40 (jw 43 g0 (gi (fun p r h=>by
   refine gz (AI 15 AE) [0,1,2,3,4,5,7] p [6] (H0.g (Eq.refl (([(AK+1)]:List Int).length))) (CP (AX Tryz.f51) 15 [m0]) (AM 63 [(0,.i AR),(5,.ref 0 0),(6,.ref 2 0),(7,.ref 3 0),(9,.i AK),(10,.ints ([(AK+1)]:List Int)),(26,.i AR),(27,.i AK)]) (XS kd Bi st Av lo hi rn rl Au o1 AR Ag ET B4 EC o5) ?_;revert r;apply gO;exact ja 49 7 1 (DN (c:=Ar) (L:=([([(AK+1)]:List Int)]:List (List Int))) (vals:=[.ints ([(AK+1)]:List Int)]) rfl ⟨⟨_,rfl,⟨AL,trivial⟩⟩,trivial⟩) (gc (gn fun g2=>gc (gn fun g3=>jg (And.intro (And.intro (And.intro (Eq.refl 0) (Eq.refl 1)) (Fu Ar ([([(AK+1)]:List Int)]:List (List Int)) (([([(AK+1)]:List Int)]:List (List Int)).length) 1 fun _=>⟨rfl,rfl⟩)) (And.intro (And.intro (Eq.refl 0) g2) g3)) (ja 50 8 1 (IW (enc:=(I0 Ar)) (L:=o5) (L':=([([(AK+1)]:List Int)]:List (List Int))) rfl rfl fun _ _ _ _=>AL) (jt (gc (gi (jt (gw 58 (lG AE [0,10,2,3,4,8] (AG _ _ · m0 AC)))))))))))))) (ja 49 6 1 (DN (c:=Ar) (L:=([([]:List Int)]:List (List Int))) (vals:=[.nils]) rfl ⟨⟨_,rfl,⟨AT.ints_nil,trivial⟩⟩,trivial⟩) (gc (gn fun g1=>gc (gn fun g2=>jg (And.intro (And.intro (And.intro (Eq.refl 0) (by decide:1=([([]:List Int)]:List (List Int)).length)) (Fu Ar ([([]:List Int)]:List (List Int)) (([([]:List Int)]:List (List Int)).length) 1 fun _=>⟨rfl,rfl⟩)) (And.intro (And.intro (Eq.refl 0) g1) g2)) (ja 50 7 1 (IW (enc:=(I0 Ar)) (L:=o5) (L':=([([]:List Int)]:List (List Int))) rfl rfl fun _ _ _ _=>AL) (jt (gi (jt (jw 58 g0 (lG AE [0,9,2,3,4,7] (AG _ _ · m0 AC)))))))))))))) (gn fun g0=>fun p r h=>by
   refine gz (AI 18 AE) [0,1,2,3,4,5] p [1] (H0.g g0) (CP (AX Tryz.f51) 18 []) (AM 63 [(5,.ref 0 0),(6,.ref 2 0),(7,.ref 3 0)]) (tA kd o1 st Av lo hi rn rl Au AR Ag ET B4 EC o5) ?_;revert r;apply gO;exact ja 60 6 9 (DN (c:=AF) (L:=([(⟨kd,o1,st,Av,lo,hi,rn,rl,Au⟩:AB)]:List AB)) (vals:=[.agg 9 (L1 [.i kd,.ints o1,.i st,.i Av,.i lo,.i hi,.ints rn,.i rl,.i Au])]) rfl ⟨⟨_,rfl,⟨AL,AL,AL,AL,AL,AL,AL,AL,AL,trivial⟩⟩,trivial⟩) (jt (jt (gc (gn fun g1=>gn fun g2=>lF fun p=>ez AE [6] [2,4,5,6] p [1,2,3] (H0.g g1 |>.g g2 |>.g (Eq.refl 1)))))))
theorem Gm {n:Nat} {AR Ag kd st Av lo hi:Int} {rn:List Int} {rl Au:Int} {r:AA} (h:GJ n AR Ag kd st Av lo hi rn rl Au=some r):EQ 51 [.i AR,.i Ag,.agg 9 (L1 [.i kd,.nils,.i st,.i Av,.i lo,.i hi,.ints rn,.i rl,.i Au])] [] (.agg 5 (L1 (AD r))) [] true:=by
 refine ot Tryz.func51 fun B N=>?_
 revert r;apply gO;exact jt (lN AE [0,1,2] ((pg B N AR Ag kd st Av lo hi rn rl Au n) _ _ · n Nat.le.refl))
end Go.Proofs.YtgkhhfnhacibcaaGreatDoor
namespace Go.Proofs.YtgkhhfnhacibcaaGreatDoor
abbrev zAc:=@List.drop_zero
end Go.Proofs.YtgkhhfnhacibcaaGreatDoor
namespace Go.Proofs.YtgkhhfnhacibcaaGreatDoor
open Go.RowKit
set_option maxRecDepth 100000
set_option maxHeartbeats 40000000
def xD (n:Nat) (s_:List Int):Option Unit:=
 some ()
def xF (n:Nat) (s_:List Int):Option Unit:=xD n s_
theorem xC {n:Nat} (s_:List Int) {r:Unit} (h:xF n s_=some r):EQ 102 [.ints s_] [] (.fn 120 1 (L1 [.ref 0 0])) [some (.cells [.ints s_])] true:=by
 refine ot Tryz.func102 fun B N=>?_
 revert r;apply gO;exact lE AE [2] [0]
inductive OV where
 | l1 (x3:Int)
def Mu (n:Nat) (self:OV -> Option (List (Int×Int))) (s_:List Int) (x3:Int):Option (List (Int×Int)):=
 bif (decide (x3>=0)) then
  if 0<=x3/\ x3<(s_.length:Int) then
   Option.map (fun l=>(x3,s_.getD ((x3).toNat) 0)::l) (
    if AH (x3-1) then
     self (.l1 (x3-1))
    else none)
  else none
 else
  some []
def Yi (n:Nat) (self:OV -> Option (List (Int×Int))) (s_:List Int):Option (List (Int×Int)):=
 if AH ((s_.length:Int)-1) then
  self (.l1 ((s_.length:Int)-1))
 else none
def LI (s_:List Int):Nat -> OV -> Option (List (Int×Int))
 | 0,_=>none
 | n+1,.l1 x3=>Mu n (LI s_ n) s_ x3
def back (n:Nat) (s_:List Int):Option (List (Int×Int)):=Yi n (LI s_ n) s_
def Yj (C:CW Tryz.prog GG) (n:Nat) (s_:List Int) (r:List (Int×Int)):OV -> Prop
 | .l1 x3=>∀ m0:Nat,n<=m0 -> ∀ i:Nat,i<=C.encs.length -> C.encs.drop i=r.map Mi -> Az Tryz.prog GG Fence.wide none 1 (C.Y 1 i) (C.Q 1) (A2 m0 (BA (AX Tryz.f120) 0 [])) ⟨AM 19 [(0,.yl C.l),(1,.ref 0 0),(3,.i x3)],[some (.cells [.ints s_])]⟩
theorem w9 (C:CW Tryz.prog GG) (n:Nat) (self:OV -> Option (List (Int×Int))) (s_:List Int) (AG: ∀ pt r,self pt=some r -> Yj C n s_ r pt) (x3:Int) (r:List (Int×Int)) (h:Mu n self s_ x3=some r):Yj C (n+1) s_ r (.l1 x3):=by
 intro m0 AC;intro i hi hd;refine rd AC fun m0 AC=>?_
 unfold Mu at h;have p:=H0;rcases E1 h with ⟨c0,h⟩ | ⟨c0,h⟩
 ·have p:=H0.b 8 c0;refine gs (AI 3 AE) [0] p (CP (AX Tryz.f120) 3 [m0]) (AM 19 [(0,.yl C.l),(1,.ref 0 0),(3,.i x3)]) [some (.cells [.ints s_])] ?_;obtain ⟨g0,h⟩:=Cx h;have p:=H0.g g0;obtain ⟨r,h2,rfl⟩:=P0 h;clear h;have h:=h2;clear h2;obtain ⟨hx,hi,hd⟩:=Qy hd;refine Az.y (ops:=BC Tryz.f120 3) HC.x 6 [0,1,3,18] [0] p (x:=Mi (x3,s_.getD ((x3).toNat) 0)) (AM 19 [(0,.yl C.l),(1,.ref 0 0),(3,.i x3),(18,.bool false)]) [some (.cells [.ints s_])] (AM 19 [(0,.yl C.l),(1,.ref 0 0),(3,.i x3),(18,.bool true)]) [some (.cells [.ints s_])] (by kernel_rfl) (by kernel_rfl) (by kernel_rfl) hx (by kernel_rfl) ?_ ?_
  ·generalize i+1=i at hi hd ⊢
   obtain ⟨g1,h⟩:=Cx h;have p:=H0.w 10 g1;exact gg AE [0] p (AG _ _ h m0 AC i hi hd)
  ·exact TrI.e HC.x AE 6 H0 (by kernel_rfl) (.inr rfl)
 ·have p:=H0.b 8 c0;cases h;exact TrI.e HC.x AE 10 p (by kernel_rfl) (.inl (by rw [Mk hi hd]))
theorem gX (C:CW Tryz.prog GG) (s_:List Int): ∀ (n:Nat) (pt:OV) (r:List (Int×Int)),LI s_ n pt=some r -> Yj C n s_ r pt
 | 0,_,_,h=>by cases h
 | n+1,.l1 x3,r,h=>w9 C n (LI s_ n) s_ (gX C s_ n) x3 r h
theorem xA {n:Nat} (s_:List Int) {r:List (Int×Int)} (h:back n s_=some r) (C:CW Tryz.prog GG) (hC:C.encs=r.map Mi):Az Tryz.prog GG Fence.wide none 1 (C.Y 1 0) (C.Q 1) [.code (AX Tryz.f120)] ⟨AM 19 [(0,.yl C.l),(1,.ref 0 0)],[some (.cells [.ints s_])]⟩:=by
 suffices H: ∀ i:Nat,i<=C.encs.length -> C.encs.drop i=r.map Mi -> Az Tryz.prog GG Fence.wide none 1 (C.Y 1 i) (C.Q 1) [.code (AX Tryz.f120)] ⟨AM 19 [(0,.yl C.l),(1,.ref 0 0)],[some (.cells [.ints s_])]⟩ from H 0 (zU _) (by rw [zAc];exact hC)
 intro i hi hd;have AG:=gX C s_ n;unfold back at h
 generalize LI s_ n=self at h AG
 unfold Yi at h;obtain ⟨g0,h⟩:=Cx h;have p:=H0.w 6 g0;exact gg AE [0] p (en n (AG _ _ h n Nat.le.refl i hi hd))
theorem xE {n:Nat} {s_:List Int} {r:List (Int×Int)} (h:back n s_=some r) (H:DH):EQ 102 [.ints s_] H (.it H.length) (H++[some (.iter (r.map Mi))]) true:=by
 refine ES.iterN (c:=L1 [.ref 0 0]) (h0:=[some (.cells [.ints s_])]) (fn:=Tryz.f120) (xC (n:=0) s_ (r:=()) rfl) (by kernel_rfl) Tryz.func120 (by kernel_rfl) (by kernel_rfl) (by kernel_rfl) (fun C hC=>?_) H;have e:DV.yl C.l::(List.range 1).map (L1 [.ref 0 0])++List.replicate (Tryz.f120.ntmps-(1+1)) .any=AM 19 [(0,.yl C.l),(1,.ref 0 0)]:=by kernel_rfl
 rw [e];exact xA s_ h C hC
end Go.Proofs.YtgkhhfnhacibcaaGreatDoor
namespace Go.Proofs.YtgkhhfnhacibcaaGreatDoor
open Go.RowKit
set_option maxRecDepth 100000
set_option maxHeartbeats 40000000
def m7 (n:Nat) (g_:List (List Int)) (AS:List Bool) (start:Int):Option Unit:=
 some ()
def m8 (n:Nat) (g_:List (List Int)) (AS:List Bool) (start:Int):Option Unit:=m7 n g_ AS start
theorem m6 {n:Nat} (g_:List (List Int)) (AS:List Bool) (start:Int) {r:Unit} (h:m8 n g_ AS start=some r):EQ 127 [.sl 1 g_.length (Am Ar g_),.bools AS,.i start] [] (.fn 132 3 (L1 [.ref 0 0,.ref 1 0,.ref 2 0])) [some (.cells [.sl 1 g_.length (Am Ar g_)]),some (.cells [.i start]),some (.cells [.bools AS])] true:=by
 refine ot Tryz.func127 fun B N=>?_
 revert r;apply gO;exact lE AE [6] [0,2,1]
theorem kZ:Ay (BC Tryz.f132 6) [] (List.range 8) []:=by unfold Ay;kernel_rfl
def Hi:Bb:=fun i=>match i with
 | 6=>.ord [] (List.range 8) []
 | _=>.no
def Tk (g:List (List Int)) (start:Int) (inn o3:List Bool) (o4:List Int):DH:=[some (.cells [.sl 1 g.length (Am Ar g)]),some (.cells [.i start]),some (.cells [.bools inn]),some (.bools o3),some (.ints o4)]
inductive Ia where
 | l1 (x6:Nat) (o3:List Bool) (o4:List Int)
 | l2 (x6:Nat) (C2:List Int) (GC Bq:Int) (o3:List Bool) (o4:List Int)
 | l3 (o3:List Bool)
def Ln (n:Nat) (self:Ia -> Option (List Int)) (g:List (List Int)) (start:Int) (inn:List Bool) (x6:Nat) (o3:List Bool) (o4:List Int):Option (List Int):=
 bif (decide ((x6:Int)>0)) then
  if ((0:Int)<=0/\ 0<(x6:Int))/\ 0+0<o4.length then
   Option.map (fun l=>(o4.getD (0+0) 0)::l) (
    if ((0:Int)<=0/\ 0<(x6:Int))/\ 0+0<o4.length/\ (0<=(o4.getD (0+0) 0)/\ (o4.getD (0+0) 0)<(g.length:Int)) then
     self (.l2 x6 (g.getD ((o4.getD (0+0) 0).toNat) []) (((g.getD ((o4.getD (0+0) 0).toNat) []).length:Nat):Int) 0 o3 o4)
    else none)
  else none
 else
  some []
def JT (n:Nat) (self:Ia -> Option (List Int)) (g:List (List Int)) (start:Int) (inn:List Bool) (x6:Nat) (C2:List Int) (GC Bq:Int) (o3:List Bool) (o4:List Int):Option (List Int):=
 bif (decide (Bq<GC)) then
  if (0<=Bq/\ Bq<(C2.length:Int))/\ (0<=(C2.getD ((Bq).toNat) 0)/\ (C2.getD ((Bq).toNat) 0)<(inn.length:Int)) then
   bif (inn.getD ((C2.getD ((Bq).toNat) 0).toNat) false) then
    if (0<=(C2.getD ((Bq).toNat) 0)/\ (C2.getD ((Bq).toNat) 0)<(g.length:Int))/\ 0+((C2.getD ((Bq).toNat) 0).toNat)<o3.length then
     bif (!(o3.getD (0+((C2.getD ((Bq).toNat) 0).toNat)) false)) then
      if ((0=0/\ 1=([C2.getD ((Bq).toNat) 0]:List Int).length)/\ (0=0/\ x6=o4.length)/\ o4.length+([C2.getD ((Bq).toNat) 0]:List Int).length<=As)/\ AH (Bq+1) then
       self (.l2 (o4.length+([C2.getD ((Bq).toNat) 0]:List Int).length) C2 GC (Bq+1) (o3.set (0+((C2.getD ((Bq).toNat) 0).toNat)) true) (o4++([C2.getD ((Bq).toNat) 0]:List Int)))
      else none
     else
      if AH (Bq+1) then
       self (.l2 x6 C2 GC (Bq+1) o3 o4)
      else none
    else none
   else
    if AH (Bq+1) then
     self (.l2 x6 C2 GC (Bq+1) o3 o4)
    else none
  else none
 else
  bif ((x6-1)==0) then
   if (0:Int)<=1/\ (1:Int)<=(x6:Int)/\ (x6:Int)<=(x6:Int) then
    self (.l3 o3)
   else none
  else
   if (0:Int)<=1/\ (1:Int)<=(x6:Int)/\ (x6:Int)<=(x6:Int) then
    if 1<=o4.length then
     self (.l1 (x6-1) o3 (o4.drop 1))
    else none
   else none
def Vq (n:Nat) (self:Ia -> Option (List Int)) (g:List (List Int)) (start:Int) (inn:List Bool) (o3:List Bool):Option (List Int):=
 some []
def Vr (n:Nat) (self:Ia -> Option (List Int)) (g:List (List Int)) (start:Int) (inn:List Bool):Option (List Int):=
 if (((g.length:Int):Int)=(g.length:Int)/\ 0<=(g.length:Int)/\ ((g.length:Int):Int)<=1000000000000)/\ (0<=start/\ start<(g.length:Int))/\ 0+((start).toNat)<(List.replicate g.length false).length then
  self (.l1 1 ((List.replicate g.length false).set (0+((start).toNat)) true) ([start]:List Int))
 else none
def Dz (g:List (List Int)) (start:Int) (inn:List Bool):Nat -> Ia -> Option (List Int)
 | 0,_=>none
 | n+1,.l1 x6 o3 o4=>Ln n (Dz g start inn n) g start inn x6 o3 o4
 | n+1,.l2 x6 C2 GC Bq o3 o4=>JT n (Dz g start inn n) g start inn x6 C2 GC Bq o3 o4
 | n+1,.l3 o3=>Vq n (Dz g start inn n) g start inn o3
def Fm (n:Nat) (g:List (List Int)) (start:Int) (inn:List Bool):Option (List Int):=Vr n (Dz g start inn n) g start inn
def Lo (C:CW Tryz.prog GG) (n:Nat) (g:List (List Int)) (start:Int) (inn:List Bool) (r:List Int):Ia -> Prop
 | .l1 x6 o3 o4=>∀ m0:Nat,n<=m0 -> ∀ i:Nat,i<=C.encs.length -> C.encs.drop i=r.map BK -> Az Tryz.prog GG Fence.wide none 3 (C.Y 3 i) (C.Q 3) (A2 m0 (BA (AX Tryz.f132) 0 [])) ⟨AM 58 [(0,.yl C.l),(1,.ref 0 0),(3,.ref 2 0),(5,.msl 3 1 0 g.length),(6,.msl 4 1 0 x6)],[some (.cells [.sl 1 g.length (Am Ar g)]),some (.cells [.i start]),some (.cells [.bools inn]),some (.bools o3),some (.ints o4)]⟩
 | .l2 x6 C2 GC Bq o3 o4=>∀ m0 m1:Nat,n<=m0 -> n<=m1 -> ∀ i:Nat,i<=C.encs.length -> C.encs.drop i=r.map BK -> Az Tryz.prog GG Fence.wide none 3 (C.Y 3 i) (C.Q 3) (A2 m1 (BA (AX Tryz.f132) 2 [m0])) ⟨AM 58 [(0,.yl C.l),(1,.ref 0 0),(3,.ref 2 0),(5,.msl 3 1 0 g.length),(6,.msl 4 1 0 x6),(33,.ints C2),(34,.i GC),(35,.i Bq)],[some (.cells [.sl 1 g.length (Am Ar g)]),some (.cells [.i start]),some (.cells [.bools inn]),some (.bools o3),some (.ints o4)]⟩
 | .l3 o3=>∀ m0:Nat,n<=m0 -> ∀ i:Nat,i<=C.encs.length -> C.encs.drop i=r.map BK -> Az Tryz.prog GG Fence.wide none 3 (C.Y 3 i) (C.Q 3) (A2 m0 (BA (AX Tryz.f132) 0 [])) ⟨AM 58 [(0,.yl C.l),(1,.ref 0 0),(3,.ref 2 0),(5,.msl 3 1 0 g.length),(6,.ints ([]:List Int))],[some (.cells [.sl 1 g.length (Am Ar g)]),some (.cells [.i start]),some (.cells [.bools inn]),some (.bools o3)]⟩
theorem my (C:CW Tryz.prog GG) (n:Nat) (self:Ia -> Option (List Int)) (g:List (List Int)) (start:Int) (inn:List Bool) (AG: ∀ pt r,self pt=some r -> Lo C n g start inn r pt) (x6:Nat) (o3:List Bool) (o4:List Int) (r:List Int) (h:Ln n self g start inn x6 o3 o4=some r):Lo C (n+1) g start inn r (.l1 x6 o3 o4):=by
 intro m0 AC;intro i hi hd;refine rd AC fun m0 AC=>?_
 unfold Ln at h;have p:=H0;rcases E1 h with ⟨c0,h⟩ | ⟨c0,h⟩
 ·have p:=H0.b 19 c0;refine gs (AI 5 Hi) [0,1,2,3,4] p (CP (AX Tryz.f132) 5 [m0]) (AM 58 [(0,.yl C.l),(1,.ref 0 0),(3,.ref 2 0),(5,.msl 3 1 0 g.length),(6,.msl 4 1 0 x6)]) (Tk g start inn o3 o4) ?_;obtain ⟨⟨g0,g1⟩,h⟩:=Cx h;have p:=H0.g g0 |>.g g1
  obtain ⟨r,h2,rfl⟩:=P0 h;clear h;have h:=h2;clear h2;obtain ⟨hx,hi,hd⟩:=Qy hd;refine Az.y (ops:=BC Tryz.f132 5) HC.x 4 [0,1,3,5,6,27] [0,1,2,3,4] p (x:=BK (o4.getD (0+0) 0)) (AM 58 [(0,.yl C.l),(1,.ref 0 0),(3,.ref 2 0),(5,.msl 3 1 0 g.length),(6,.msl 4 1 0 x6),(27,.bool false)]) (Tk g start inn o3 o4) (AM 58 [(0,.yl C.l),(1,.ref 0 0),(3,.ref 2 0),(5,.msl 3 1 0 g.length),(6,.msl 4 1 0 x6),(27,.bool true)]) (Tk g start inn o3 o4) (by kernel_rfl) (by kernel_rfl) (by kernel_rfl) hx (by kernel_rfl) ?_ ?_
  ·generalize i+1=i at hi hd ⊢
   obtain ⟨⟨g2,g3,g4⟩,h⟩:=Cx h;have p:=H0.g kZ |>.g g2 |>.g g3 |>.g g4
   exact gg Hi [0,1,2,3,4] p (en n (AG _ _ h m0 n AC Nat.le.refl i hi hd))
  ·exact TrI.e HC.x Hi 6 H0 (by kernel_rfl) (.inr rfl)
 ·have p:=H0.b 19 c0;cases h;exact TrI.e HC.x Hi 10 p (by kernel_rfl) (.inl (by rw [Mk hi hd]))
theorem mx (C:CW Tryz.prog GG) (n:Nat) (self:Ia -> Option (List Int)) (g:List (List Int)) (start:Int) (inn:List Bool) (AG: ∀ pt r,self pt=some r -> Lo C n g start inn r pt) (x6:Nat) (C2:List Int) (GC Bq:Int) (o3:List Bool) (o4:List Int) (r:List Int) (h:JT n self g start inn x6 C2 GC Bq o3 o4=some r):Lo C (n+1) g start inn r (.l2 x6 C2 GC Bq o3 o4):=by
 intro m0 m1 AC Ap;intro i hi hd;have AC:=zA AC;refine rd Ap fun m1 Ap=>?_
 unfold JT at h;have p:=H0;rcases E1 h with ⟨c0,h⟩ | ⟨c0,h⟩
 ·obtain ⟨⟨g0,g1⟩,h⟩:=Cx h;have p:=H0.b 36 c0 |>.g g0 |>.g g1
  rcases E1 h with ⟨c1,h⟩ | ⟨c1,h⟩
  ·obtain ⟨⟨g2,g3⟩,h⟩:=Cx h;have p:=p.b 42 c1 |>.g g2 |>.g g3
   rcases E1 h with ⟨c2,h⟩ | ⟨c2,h⟩
   ·obtain ⟨⟨g4,g5⟩,h⟩:=Cx h;have p:=p.b 48 c2 |>.g g2 |>.g g3 |>.g g4 |>.w 57 g5
    exact gg Hi [0,1,2,3,6] p (AG _ _ h m0 m1 AC Ap i hi hd)
   ·obtain ⟨g4,h⟩:=Cx h;have p:=p.b 48 c2 |>.w 57 g4
    exact gg Hi [0,1,2,3,4] p (AG _ _ h m0 m1 AC Ap i hi hd)
  ·obtain ⟨g2,h⟩:=Cx h;have p:=p.b 42 c1 |>.w 57 g2
   exact gg Hi [0,1,2,3,4] p (AG _ _ h m0 m1 AC Ap i hi hd)
 ·have p:=H0.b 36 c0;rcases E1 h with ⟨c1,h⟩ | ⟨c1,h⟩
  ·obtain ⟨g0,h⟩:=Cx h;have p:=p.g g0 |>.o 21 (AT.mse_nil (k:=4) (m:=1) (o:=1) (eq_of_beq c1))
   exact gg Hi [0,1,2,3] p (AG _ _ h m0 AC i hi hd)
  ·obtain ⟨g0,h⟩:=Cx h;have p:=p.g g0 |>.o 21 (AT.mse_msl (k:=4) (m:=1) (o:=1) (nR c1) rfl)
   obtain ⟨g1,h⟩:=Cx h;refine gs Hi [0,1,2,3,4] p (A2 m0 (BA (AX Tryz.f132) 0 [])) (AM 58 [(0,.yl C.l),(1,.ref 0 0),(3,.ref 2 0),(5,.msl 3 1 0 g.length),(6,.msl 4 1 1 (x6-1))]) (Tk g start inn o3 o4) ?_;refine BV.le (BT.rootE 4 1 ⟨AM 58 [(0,.yl C.l),(1,.ref 0 0),(3,.ref 2 0),(5,.msl 3 1 0 g.length),(6,.msl 5 1 0 (x6-1))],[some (.cells [.sl 1 g.length (Am Ar g)]),some (.cells [.i start]),some (.cells [.bools inn]),some (.bools o3),none,some (.ints (o4.drop 1))]⟩ [1<=o4.length] (by kernel_rfl) ⟨g1,trivial⟩) (by kernel_rfl) ?_;refine BV.le (BT.compE [0,1,2,3,5] (by kernel_rfl)) (by kernel_rfl) ?_;exact AG _ _ h m0 AC i hi hd
theorem mw (C:CW Tryz.prog GG) (n:Nat) (self:Ia -> Option (List Int)) (g:List (List Int)) (start:Int) (inn:List Bool) (AG: ∀ pt r,self pt=some r -> Lo C n g start inn r pt) (o3:List Bool) (r:List Int) (h:Vq n self g start inn o3=some r):Lo C (n+1) g start inn r (.l3 o3):=by
 intro m0 AC;intro i hi hd;refine rd AC fun m0 AC=>?_
 unfold Vq at h;have p:=H0;cases h;exact TrI.e HC.x Hi 10 p (by kernel_rfl) (.inl (by rw [Mk hi hd]))
theorem SW (C:CW Tryz.prog GG) (g:List (List Int)) (start:Int) (inn:List Bool): ∀ (n:Nat) (pt:Ia) (r:List Int),Dz g start inn n pt=some r -> Lo C n g start inn r pt
 | 0,_,_,h=>by cases h
 | n+1,.l1 x6 o3 o4,r,h=>my C n (Dz g start inn n) g start inn (SW C g start inn n) x6 o3 o4 r h
 | n+1,.l2 x6 C2 GC Bq o3 o4,r,h=>mx C n (Dz g start inn n) g start inn (SW C g start inn n) x6 C2 GC Bq o3 o4 r h
 | n+1,.l3 o3,r,h=>mw C n (Dz g start inn n) g start inn (SW C g start inn n) o3 r h
theorem m5 {n:Nat} (g:List (List Int)) (start:Int) (inn:List Bool) {r:List Int} (h:Fm n g start inn=some r) (C:CW Tryz.prog GG) (hC:C.encs=r.map BK):Az Tryz.prog GG Fence.wide none 3 (C.Y 3 0) (C.Q 3) [.code (AX Tryz.f132)] ⟨AM 58 [(0,.yl C.l),(1,.ref 0 0),(2,.ref 1 0),(3,.ref 2 0)],[some (.cells [.sl 1 g.length (Am Ar g)]),some (.cells [.i start]),some (.cells [.bools inn])]⟩:=by
 suffices H: ∀ i:Nat,i<=C.encs.length -> C.encs.drop i=r.map BK -> Az Tryz.prog GG Fence.wide none 3 (C.Y 3 i) (C.Q 3) [.code (AX Tryz.f132)] ⟨AM 58 [(0,.yl C.l),(1,.ref 0 0),(2,.ref 1 0),(3,.ref 2 0)],[some (.cells [.sl 1 g.length (Am Ar g)]),some (.cells [.i start]),some (.cells [.bools inn])]⟩ from H 0 (zU _) (by rw [zAc];exact hC)
 intro i hi hd;have AG:=SW C g start inn n;unfold Fm at h
 generalize Dz g start inn n=self at h AG
 unfold Vr at h;obtain ⟨⟨g0,g1,g2⟩,h⟩:=Cx h;have p:=H0.g g0 |>.g g1 |>.g g2
 exact gg Hi [0,1,2,3,4] p (en n (AG _ _ h n Nat.le.refl i hi hd))
theorem Vt {n:Nat} {g_:List (List Int)} {AS:List Bool} {start:Int} {r:List Int} (h:Fm n g_ start AS=some r) (H:DH):EQ 127 [.sl 1 g_.length (Am Ar g_),.bools AS,.i start] H (.it H.length) (H++[some (.iter (r.map BK))]) true:=by
 refine ES.iterN (c:=L1 [.ref 0 0,.ref 1 0,.ref 2 0]) (h0:=[some (.cells [.sl 1 g_.length (Am Ar g_)]),some (.cells [.i start]),some (.cells [.bools AS])]) (fn:=Tryz.f132) (m6 (n:=0) g_ AS start (r:=()) rfl) (by kernel_rfl) Tryz.func132 (by kernel_rfl) (by kernel_rfl) (by kernel_rfl) (fun C hC=>?_) H;have e:DV.yl C.l::(List.range 3).map (L1 [.ref 0 0,.ref 1 0,.ref 2 0])++List.replicate (Tryz.f132.ntmps-(3+1)) .any=AM 58 [(0,.yl C.l),(1,.ref 0 0),(2,.ref 1 0),(3,.ref 2 0)]:=by kernel_rfl
 rw [e];exact m5 g_ start AS h C hC
end Go.Proofs.YtgkhhfnhacibcaaGreatDoor
