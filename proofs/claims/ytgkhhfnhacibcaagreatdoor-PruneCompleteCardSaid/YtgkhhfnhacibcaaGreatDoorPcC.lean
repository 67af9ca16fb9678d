/- Part 3 of 6 of what the proofs of these laws stand on. -/
import Derived.Test.YtgkhhfnhacibcaaGreatDoorPcB
import Derived.LoopIn
set_option linter.all false
namespace Go.Proofs.YtgkhhfnhacibcaaGreatDoor
open Go.RowKit
structure HX (F:Fence) (P:Program):Prop where
 f:Dl F P
 m:P.follows .mixedOrders=true
structure HS (c:List (DV×DH×Bool)) (o:List (Nat×DV)) (z:List (Nat×Fz)) (v:List Prop):Prop where
 all:Bl v
section
variable {P:Program} {Γ:A9} {cs:List (DV×DH×Bool)} {os:List (Nat×DV)} {zs:List (Nat×Fz)} {vs:List Prop}
theorem H0:HS [] [] [] []:=⟨trivial⟩
theorem HS.add (q:HS cs os zs vs) {c':List (DV×DH×Bool)} {o':List (Nat×DV)} {z':List (Nat×Fz)} {p:Prop} (h:p):HS c' o' z' (vs++[p]):=⟨Cl.2 ⟨q.all,h,trivial⟩⟩
theorem HS.o (q:HS cs os zs vs) (t:Nat) {d d':DV} (x:AS d d'):HS cs (os++[(t,d')]) zs (vs++[AS d d']):=q.add x
theorem HS.b (q:HS cs os zs vs) (t:Nat) {a b:Bool} (x:a=b):HS cs (os++[(t,.bool b)]) zs (vs++[AS (.bool a) (.bool b)]):=q.add (AS.bool x)
theorem HS.w (q:HS cs os zs vs) (t:Nat) {x:Int} (h:AL x):HS cs (os++[(t,.int .i64 x)]) zs (vs++[AS (.int .i64 (IntKind.i64.wrap x)) (.int .i64 x)]):=q.add (iz h)
theorem HS.g (q:HS cs os zs vs) {p:Prop} (x:p):HS cs os zs (vs++[p]):=q.add x
theorem HS.t (q:HS cs os zs vs):HS cs os zs (vs++[True]):=q.add trivial
theorem HS.c (q:HS cs os zs vs) {f:Nat} {ds:List DV} {h:DH} {d:DV} {h':DH} {e:Bool} (x:ES P Γ f ds h d h' e):HS (cs++[(d,h',e)]) os zs (vs++[ES P Γ f ds h d h' e]):=q.add x
theorem HS.q (q:HS cs os zs vs) {f:Nat} {ds:List DV} {h:DH} {d:DV} {h':DH} {k:Nat} (x:ND P Γ f ds h d h' k):HS (cs++[(d,h',false)]) os zs (vs++[ND P Γ f ds h d h' k]):=q.add x
theorem HS.a (q:HS cs os zs vs) (t k m:Nat) {n n':Nat} {f f':Nat -> Nat -> DV} (x:n=n'/\ ∀ i j,i<n -> j<m -> AS (f i j) (f' i j)):HS cs os (zs++[(t,.arr k n' f')]) (vs++[n=n'/\ ∀ i j,i<n -> j<m -> AS (f i j) (f' i j)]):=q.add x
theorem HS.z (q:HS cs os zs vs) (t k:Nat):HS cs os (zs++[(t,.frz k)]) vs:=⟨q.all⟩
theorem HS.k (q:HS cs os zs vs) (t:Nat):HS cs os (zs++[(t,.rws)]) vs:=⟨q.all⟩
end
theorem ES.emC {P:Program} {Γ:A9} {f:Nat} {ds:List DV} {h:DH} {d:DV} {h':DH} {ext:Bool} (Ei:ES P Γ f ds h d h' ext) (σ:List Nat) (H:DH) (hb:LO σ H.length h.length h'.length=true) (hh:(σ.map fun k=>H.getD k none)=h.map (EI σ H.length)):ES P Γ f (ds.map (up σ H.length)) H (up σ H.length d) (Em H σ h') ext:=
 Ei.embedB σ H hb hh rfl
theorem Fy {α:Type} [Inhabited α] (c:α -> List DV) (L:List α) (n m:Nat) (h: ∀ x,(c x).all Hy=true/\ m=(c x).length): ∀ i j,i<n -> j<m -> Hy (Aq c L i j)=true:=fun i j _ hj=>oh (h _).1 (h _).2 j hj
def frzL:List Nat -> St -> Option (St×List Prop)
 | [],S=>some (S,[])
 | k::ks,S=>match Ql k S with
  | some (S',vs)=>match frzL ks S' with
   | some (Ce,BZ)=>some (Ce,vs++BZ)
   | none=>none
  | none=>none
theorem BW.frzL {L:Nat}: ∀ (ks:List Nat) {S S':St} {vs:List Prop},Proofs.YtgkhhfnhacibcaaGreatDoor.frzL ks S=some (S',vs) -> Bl vs -> BW L S S'
 | [],S,S',vs,h,_=>by cases h;exact BW.refl L S
 | k::ks,S,S',vs,h,hv=>by
  simp only [Proofs.YtgkhhfnhacibcaaGreatDoor.frzL] at h;split at h
  ·rename_i S1 Cf h1;split at h
   ·rename_i S2 Eu h2;cases h;obtain ⟨B3,CD⟩:=Cl.1 hv;exact (BW.frzE k S1 Cf h1 B3).trans (BW.frzL ks h2 CD)
   ·cases h
  ·cases h
abbrev Uz:=List Prop×List Prop×List (DV×DH×Bool)×List (Nat×DV)×Bool
def Na (σ:List Nat) (L:Nat) (w:List Prop) (r:KO×St×List Prop×Bw):Uz:=(r.2.2.1,w,r.2.2.2.calls,r.2.2.2.co,JW σ L r.2.1.h.length)
def Kq (live σ:List Nat) (L:Nat) (ks:List Nat) (r:KO×St×List Prop×Bw):Option (KO×List DV×DH×Uz):=match frzL ks (comp live σ r.2.1) with
 | some (S,w)=>some (r.1,S.fr,S.h,Na σ L w r)
 | none=>none
def dV:KO -> Option Exit
 | .ret=>some .ret
 | .at []=>some .normal
 | .at (.code (.exit i)::k)=>if (Hw i k).isNone then some (.exit i) else none
 | _=>none
def In (P:Program) (live σ:List Nat) (L:Nat) (ks:List Nat) (fn:Func) (d:DV) (l2:Nat) (r:KO×St×List Prop×Bw):Option (Bool×List DV×DH×Uz):=match frzL ks (comp live σ r.2.1) with
 | some (S,w)=>match NZ P S fn.results.toList with
  | some rs=>some ((match r.1 with | .ret=>true | .at []=>true | _=>false)&&(decide (S.h.length<=l2)||(S.h.all WY&&Gl d&&decide (L<=S.h.length))),rs,(if S.h.length<=l2 then S.h else (FN (List.range L) S).h),Na σ L w r)
  | none=>none
 | none=>none
def WN (σ:List Nat) (L:Nat) (r:KO×St×List Prop×Bw):Option Exit×DH×Uz:=(dV r.1,(comp [] σ r.2.1).h,Na σ L [] r)
section
variable {P:Program} {Γ:A9} {F:Fence} {B:Option Nat} {L:Nat} {Y N:Bg P Γ L} {Q:QY P Γ L} {k k':List KI} {S:St} {fr:List DV} {h' h2:DH} {c:List (DV×DH×Bool)} {o:List (Nat×DV)} {z:List (Nat×Fz)} {v w:List Prop}
theorem oc {live σ ks:List Nat} {r:KO×St×List Prop×Bw} {r1:KO} (h:Kq live σ L ks r=some (r1,fr,h',v,w,[],[],true)) (hw:Bl w):r.1=r1/\ r.2.2.1=v/\ BW L r.2.1 ⟨fr,h'⟩:=by
 unfold Kq at h;split at h
 ·rename_i S1 w1 hf;simp only [Na,ze,zv] at h;obtain ⟨rfl,rfl,rfl,rfl,rfl,_,_,hs⟩:=h;exact ⟨rfl,rfl,(BW.comp live σ r.2.1 hs).trans (BW.frzL ks hf hw)⟩
 ·cases h
theorem BY.gS (hX:HX F P) (A6:Bh) (n:Nat) (live σ:List Nat) (tg:List (List (Nat×Nat)×St)) (hl:HS c o z v) (ks:List Nat) (hz:HS [] [] [] w) (k':List KI) (fr:List DV) (h':DH)
 (h:(B2 P Γ A6 n k S ⟨c,o,z,tg⟩).bind (Kq live σ L ks)=some (.at k',fr,h',v,w,[],[],true)) (hc:H3 k'=true) (hk:A1 P Γ F B L Y Q k' ⟨fr,h'⟩):A1 P Γ F B L Y Q k S:=by
 cases hr:B2 P Γ A6 n k S ⟨c,o,z,tg⟩ with
 | none=>rw [hr] at h;cases h
 | some r=>
  obtain ⟨r1,S1,v1,o1⟩:=r;rw [hr] at h;obtain ⟨e1,e2,hs⟩:=oc (r:=(r1,S1,v1,o1)) h hz.all;have e1:r1= .at k':=e1;have e2:v1=v:=e2;subst e1 e2;exact E3 hX.f hX.m n k S _ _ _ _ _ hr hl.all (BY.le hs hc hk)
theorem BY.el (hX:HX F P) {fn:Func} {d:DV} (A6:Bh) (n:Nat) (live σ:List Nat) (tg:List (List (Nat×Nat)×St)) (hl:HS c o z v) (ks:List Nat) (hz:HS [] [] [] w) (rs:List DV) (le:AS (IY rs) d)
 (h:(B2 P Γ A6 n k S ⟨c,o,z,tg⟩).bind (In P live σ L ks fn d h2.length)=some (true,rs,h2,v,w,[],[],true)):BY P Γ F B L N (Fo P fn L d h2) k S:=by
 cases hr:B2 P Γ A6 n k S ⟨c,o,z,tg⟩ with
 | none=>rw [hr] at h;cases h
 | some r=>
  obtain ⟨r1,S1,v1,o1⟩:=r;rw [hr] at h;have h:In P live σ L ks fn d h2.length (r1,S1,v1,o1)=some (true,rs,h2,v,w,[],[],true):=h;unfold In at h;split at h
  ·rename_i S2 w1 hf;split at h
   ·rename_i m4 Tl;simp only [Na,ze,zv,yT] at h;obtain ⟨⟨sJ,hq⟩,rfl,hh,rfl,rfl,_,_,hs⟩:=h;have hS:BW L S1 S2:=(BW.comp live σ S1 hs).trans (BW.frzL ks hf hz.all)
    have fin: ∀ e,(e= .normal∨e= .ret) -> Fo P fn L d h2 e S1:=fun e he=>by
     refine Fo.le hS ⟨he,S2,BW.refl _ _,m4,Tl,?_⟩
     by_cases Ay:S2.h.length<=h2.length
     ·rw [yP Ay] at hh;exact .inl ⟨le,hh⟩
     ·rw [yb Ay] at hh;simp only [Ay,decide_false,zAG,yT,y8] at hq;exact .inr ⟨cZ hq.1.1,le,Ng hq.1.2,hq.2,hh⟩
    refine E3 hX.f hX.m n k S _ _ _ _ _ hr hl.all ?_;rcases r1 with (_ | ⟨_,_⟩) | _
    ·exact ⟨rfl,fin _ (.inl rfl)⟩
    ·cases sJ
    ·exact ⟨rfl,fin _ (.inr rfl)⟩
   ·cases h
  ·cases h
theorem BY.e (hX:HX F P) {fn:Func} {d:DV} (A6:Bh) (n:Nat) (live σ:List Nat) (tg:List (List (Nat×Nat)×St)) (hl:HS c o z v) (ks:List Nat) (hz:HS [] [] [] w)
 (h:(B2 P Γ A6 n k S ⟨c,o,z,tg⟩).bind (fun r=>(In P live σ L ks fn d h2.length r).map fun q=>(q.1,IY q.2.1,q.2.2))=some (true,d,h2,v,w,[],[],true)):BY P Γ F B L N (Fo P fn L d h2) k S:=by
 cases hr:B2 P Γ A6 n k S ⟨c,o,z,tg⟩ with
 | none=>rw [hr] at h;cases h
 | some r=>
  rw [hr] at h;have h:(In P live σ L ks fn d h2.length r).map (fun q=>(q.1,IY q.2.1,q.2.2))=some (true,d,h2,v,w,[],[],true):=h;cases hq:In P live σ L ks fn d h2.length r with
  | none=>rw [hq] at h;cases h
  | some q=>
   obtain ⟨q1,rs,q3⟩:=q;rw [hq] at h;simp only [zD,ze,zv] at h;obtain ⟨rfl,hd,rfl⟩:=h;exact BY.el hX A6 n live σ tg hl ks hz rs (AS.of_eq hd) (by rw [hr];exact hq)
theorem BY.r (hX:HX F P) {ex:List Exit} {i:Nat} {e:Exit} (A6:Bh) (n:Nat) (σ:List Nat) (tg:List (List (Nat×Nat)×St)) (hl:HS c o z v) (he:(Exit.normal::ex)[i]? =some e)
 (h:(B2 P Γ A6 n k S ⟨c,o,z,tg⟩).map (WN σ L)=some (some e,h2,v,[],[],[],true)):BY P Γ F B L N (Cs L ex i h2) k S:=by
 cases hr:B2 P Γ A6 n k S ⟨c,o,z,tg⟩ with
 | none=>rw [hr] at h;cases h
 | some r=>
  obtain ⟨r1,S1,v1,o1⟩:=r;rw [hr] at h;simp only [zD,WN,Na,ze,zv] at h;obtain ⟨hk,hh,rfl,_,_,_,hs⟩:=h;have fin:stay N (Cs L ex i h2) e S1 N:=⟨rfl,he,_,BW.comp [] σ S1 hs,hh⟩;refine E3 hX.f hX.m n k S _ _ _ _ _ hr hl.all ?_;unfold dV at hk;split at hk
  ·cases hk;exact fin
  ·cases hk;exact fin
  ·rename_i i' k';split at hk
   ·rename_i hp;cases hk;exact Tr.exit (OU fin k' (Option.isNone_iff_eq_none.1 hp))
   ·cases hk
  ·cases hk
theorem GB.g (hX:HX F P) {Q:Exit -> St -> Prop} {assign body:Code} (A6:Bh) (n:Nat) (live σ:List Nat) (hl:HS c o z v) (fr:List DV) (h':DH)
 (h:(B2 P Γ A6 n [.code assign] S ⟨c,o,z,[]⟩).map (Pq live σ L)=some (.at [],fr,h',v,[],[],true)) (hk: ∀ N2:Bg P Γ L,BY P Γ F B L N2 Q [.code body] ⟨fr,h'⟩):GB P Γ F B L N Q assign body S:=
 GB.go hX.f hX.m A6 n _ live σ fr h' v h hl.all hk
end
section
variable {P:Program} {Γ:A9} {L:Nat} {k:List KI} {S:St} {c:List (DV×DH×Bool)} {o:List (Nat×DV)} {z:List (Nat×Fz)} {v:List Prop}
theorem TrI.e {C:C5 P Γ} {Y:Bg P Γ L} (hX:HX Fence.wide P) (A6:Bh) (n:Nat) (hl:HS c o z v)
 (h:(B2 P Γ A6 n k S ⟨c,o,z,[]⟩).map (fun r=>((match r.1 with | .ret=>true | .at []=>true | _=>false),r.2.2.1))=some (true,v)) (hY:Y=C.Y L C.encs.length∨Y=C.X L):A1 P Γ Fence.wide none L Y (C.Q L) k S:=by
 cases hr:B2 P Γ A6 n k S ⟨c,o,z,[]⟩ with
 | none=>rw [hr] at h;cases h
 | some r=>
  obtain ⟨r1,S1,Cf,o1⟩:=r;rw [hr] at h;simp only [zD,ze,zv] at h;obtain ⟨h1,rfl⟩:=h;refine E3 hX.f hX.m n k S _ _ _ _ _ hr hl.all ?_;rcases r1 with (_ | ⟨_,_⟩) | _
  ·exact ⟨.inl rfl,hY⟩
  ·cases h1
  ·exact ⟨.inr rfl,hY⟩
theorem A1.y {C:C5 P Γ} {i:Nat} {Q:QY P Γ L} {K:List KI} {ops:Array Oper} (hX:HX Fence.wide P) (p:Nat) (live σ:List Nat) (hl:HS c o z v) {x:Array Value} (OR:List DV) (hT:DH) (OS:List DV) (hE:DH)
 (hK:Lx K=some (ops,D1 K)) (BA:Dq ops=true) (h:(Lb P Γ ops p S ⟨c,o,z,[]⟩).map (WM live σ L)=some (x.toList,C.l,OR,hT,OS,hE,v,true)) (hx:C.encs[i]? =some x) (hc:H3 (D1 K)=true) (Xm:A1 P Γ Fence.wide none L (C.Y L (i+1)) Q (D1 K) ⟨OR,hT⟩) (Xn:A1 P Γ Fence.wide none L (C.X L) Q (D1 K) ⟨OS,hE⟩):A1 P Γ Fence.wide none L (C.Y L i) Q K S:=
 A1.yieldAt hX.f hK BA p _ live σ OR hT OS hE v h hl.all hx hc Xm Xn
theorem A1.yE {C:C5 P Γ} {i:Nat} {K:List KI} {ops:Array Oper} (hX:HX Fence.wide P) (p:Nat) (hl:HS c o z v) {x:Array Value} (hK:Lx K=some (ops,[])) (BA:Dq ops=true)
 (h:(Lb P Γ ops p S ⟨c,o,z,[]⟩).map (fun r=>(r.1,r.2.1,r.2.2.2.2))=some (x.toList,C.l,v)) (hx:C.encs[i]? =some x) (hd:i+1=C.encs.length):A1 P Γ Fence.wide none L (C.Y L i) (C.Q L) K S:=by
 unfold Lx at hK;split at hK
 ·cases hK;cases hr:Lb P Γ ops p S ⟨c,o,z,[]⟩ with
  | none=>rw [hr] at h;cases h
  | some r=>
   obtain ⟨xs,l,ST,SF,Cf⟩:=r;rw [hr] at h;simp only [zD,ze,zv] at h;obtain ⟨rfl,rfl,rfl⟩:=h;exact Tr.yield hX.f BA hr hl.all hx ⟨.inl rfl,.inl (by rw [hd])⟩ ⟨.inl rfl,.inr rfl⟩
 ·cases hK
end
section
variable {P:Program} {Γ:A9} {F:Fence} {B L:Nat} {Y:Bg P Γ L} {Q:QY P Γ L} {fr:List DV} {h:DH} {K:List KI} {a b:Code} {α σ:Type} {l:List α} {H:σ -> DH} {FR:α -> List DV}
theorem BY.rg (ID:F=Fence.wide∨∃ l,F=Fence.wide.inRound l) (ex:List Exit) (I6:(ex.all fun e=>(J8 e).isSome)=true) (kk t:Nat) (ps:Array Tmp) (enc:α -> Array Value) (L':Nat) {f:α -> σ -> Option (σ×Nat)} {s0:σ} {rE:σ×Nat} (hf:ET f l s0=some rE)
 (DU: ∀ (l B:Nat) (N:Bg P Γ L') (x:α) (s:σ) (r:σ×Nat),f x s=some r -> GB P Γ (Fence.wide.inRound l) (some B) L' N (Cs L' ex r.2 (H r.1)) a b ⟨FR x,H s⟩)
 (hK:Lw K=some (.tmp t,ps,a,b,D1 K)) (hg:Ac fr (.tmp t)= .it kk) (hk:h[kk]? =some (some (.iter (l.map enc)))) (Du: ∀ x,(enc x).size=ps.size) (hL:Nat.ble L L'=true) (F8:fr.all (GJ L')=true) (h0:h.set kk none=H s0) (Di:(fun x=>JX fr ps.toList (enc x).toList)=FR)
 (EB: ∀ e,(Exit.normal::ex)[rE.2]? =some e -> DZ P Γ F (some B) L Q (D1 K) e ⟨fr,H rE.1⟩ Y):A1 P Γ F (some B) L Y Q K ⟨fr,h⟩:=
 BY.rangeAt ID ex I6 (.tmp t) ps a b (D1 K) enc l H FR f hf hK hg hk Du L' hL F8 h0 Di DU EB
theorem BY.rg0 (ID:F=Fence.wide∨∃ l,F=Fence.wide.inRound l) (kk t:Nat) (ps:Array Tmp) (enc:α -> Array Value) (L':Nat) {f:α -> σ -> Option σ} {s0 sE:σ} (hf:By f l s0=some sE)
 (DU: ∀ (l B:Nat) (N:Bg P Γ L') (x:α) (s r:σ),f x s=some r -> GB P Γ (Fence.wide.inRound l) (some B) L' N (Cs L' [] 0 (H r)) a b ⟨FR x,H s⟩)
 (hK:Lw K=some (.tmp t,ps,a,b,D1 K)) (hg:Ac fr (.tmp t)= .it kk) (hk:h[kk]? =some (some (.iter (l.map enc)))) (Du: ∀ x,(enc x).size=ps.size) (hL:Nat.ble L L'=true) (F8:fr.all (GJ L')=true) (h0:h.set kk none=H s0) (Di:(fun x=>JX fr ps.toList (enc x).toList)=FR)
 (EB:A1 P Γ F (some B) L Y Q (D1 K) ⟨fr,H sE⟩):A1 P Γ F (some B) L Y Q K ⟨fr,h⟩:=
 BY.rangeAt0 ID (.tmp t) ps a b (D1 K) enc l H FR f hf hK hg hk Du L' hL F8 h0 Di DU EB
end
end Go.Proofs.YtgkhhfnhacibcaaGreatDoor
namespace Go.Proofs.YtgkhhfnhacibcaaGreatDoor
abbrev yW:=@decide_eq_true
abbrev yx:=@List.mem_cons_of_mem
abbrev zBJ:=@List.mem_of_mem_erase
end Go.Proofs.YtgkhhfnhacibcaaGreatDoor
namespace Go.Proofs.YtgkhhfnhacibcaaGreatDoor
open Go.RowKit
abbrev LK:=Nat×Array MapEntry×Nat
theorem p8 {i:Nat}:TJ none i:=fun _ h=>by cases h
theorem p7 {i j:Nat} {g:LK} (h:i≠j):TJ (some (i,g)) j:=fun y e=>by cases e;exact h
def HI {R:Type} [DecidableEq R] (rem:KS) (a:Option R) (f:List Int -> Option R):Option R:=match rem with
 | []=>a
 | x::r=>match f x with
  | none=>none
  | some v=>if r.all (fun y=>decide (f y=some v)) then some v else none
theorem S6 {R:Type} [DecidableEq R] {rem:KS} {a:Option R} {f:List Int -> Option R} {r:R} (h:HI rem a f=some r):(rem= [] -> a=some r)/\ ∀ y∈rem,f y=some r:=by
 cases rem with
 | nil=>exact ⟨fun _=>h,fun y hy=>absurd hy zAA⟩
 | cons x l=>
  refine ⟨fun e=>absurd e (List.cons_ne_nil x l),?_⟩;unfold HI at h;simp only at h;cases hx:f x with
  | none=>rw [hx] at h;cases h
  | some v=>
   rw [hx] at h;simp only at h;split at h
   ·rename_i hc;cases h;intro y hy;rcases yq.1 hy with rfl | hy
    ·exact hx
    ·exact zx (ya.1 hc y hy)
   ·cases h
theorem cS {R:Type} [DecidableEq R] {a:Option R} {f:List Int -> Option R}:HI [] a f=a:=rfl
theorem ol {R:Type} [DecidableEq R] {rem:KS} {a:Option R} {f:List Int -> Option R} {r:R} (hn:rem≠[]) (h: ∀ y∈rem,f y=some r):HI rem a f=some r:=by
 cases rem with
 | nil=>exact absurd rfl hn
 | cons x l=>
  unfold HI;simp only [h x (by simp)];rw [yP];exact ya.2 fun y hy=>yW (h y (by simp [hy]))
theorem mi {P:Program} {w:World} {r bm Hn c0 AZ:Nat} {seen:Array Nat} {es:Array MapEntry} (hr:w.heap[r]? =some (.mapIter (some bm) Hn seen c0)) (hb:w.heap[bm]? =some (.map es AZ)) (K6: ∀ x∈es.toList,x.born<Hn) (sG:Hn<=c0) (ty:TypeId):
 ((leftOf es seen).size=0/\ (Instr.next (.pointer (some ⟨r,0,none⟩)) false ty).run P w= .ok (.tuple #[.bool false]) w)∨
 ∃ e∈(leftOf es seen).toList,∃ w1:World,(w1=w∨w1=w.drew)/\ (Instr.next (.pointer (some ⟨r,0,none⟩)) false ty).run P w= .ok (.tuple #[.bool true,e.key,e.val]) { w1 with heap:=w1.heap.setIfInBounds r (.mapIter (some bm) Hn (seen.push e.born) AZ) }:=by
 simp only [Instr.next,getObj,yj,Sem.run,hr,hb,Result.andThen,next_test_false seen es Hn c0 K6 sG,zL,zAS];unfold leftOf;have DW: ∀ x∈(Array.filter (fun e=>!seen.contains e.born) es).toList,x.born<Hn:=fun x hx=>K6 x (by simp at hx ⊢;exact hx.1)
 generalize Array.filter (fun e=>!seen.contains e.born) es=L at DW ⊢
 have e1:L.filter (fun x=>decide (x.born<Hn))=L:=Array.filter_eq_self.2 (fun x hx=>by simpa using DW x (by simpa using hx))
 have e2:L.filter (fun x=>decide (x.born>=Hn))= #[]:=by
  rw [Array.filter_eq_empty_iff];intro x hx;have:=DW x (by simpa using hx);simp;omega
 simp only [e1,e2,Array.append_empty]
 by_cases h0:L.size=0
 ·left;have:L= #[]:=zAZ h0;subst this;refine ⟨rfl,?_⟩;simp [choose,Sem.run,Question.forced]
 ·right;have Ap:L.isEmpty=false:=by simp [Array.isEmpty,h0]
  simp only [Ap,zL,zAS,Array.empty_append,Array.size_map]
  have T3: ∃ (j:Nat) (w1:World),j<L.size/\ (w1=w∨w1=w.drew)/\ (choose (Question.mapNext L.size)).run P w= .ok j w1:=by
   by_cases hf:L.size<=1
   ·exact ⟨0,w,by omega,.inl rfl,by simp [choose,Sem.run,Question.forced,hf]⟩
   ·exact ⟨_,w.drew,zBV _ (by omega),.inr rfl,by
     simp only [choose,Sem.run,Question.forced,y8,hf,zAS,Question.cut];rfl⟩
  obtain ⟨j,w1,hj,Mn,Ny⟩:=T3;have Jw:w1.heap[r]? =some (.mapIter (some bm) Hn seen c0):=by rcases Mn with rfl | rfl <;> exact hr
  refine ⟨L[j],by simp,w1,Mn,?_⟩;simp only [Ny,Array.getElem?_map,zB hj,zD,yj,setObj,Sem.run,Jw,Result.andThen];rfl
section
variable {P:Program} {Γ:A9} {N:Nat -> Prop} {S:St} {ρ:List AN} {a:Act} {w:World} {F:Fence} {B:Option Nat} {L:Nat} {Y:Bg P Γ L} {Q:QY P Γ L}
theorem Ad.setMo (R:Ad P Γ N S ρ a w) {k:Nat} {x x':MX} {p:AN} (hk:S.h[k]? =some (some (.mo x))) (hp:ρ[k]? =some p) (hO:LX w p x') (hc: ∀ b,p.foot b -> DD w b):
 Ad P Γ N ⟨S.fr,S.h.set k (some (.mo x'))⟩ ρ a w/\ BO S.h ρ w (S.h.set k (some (.mo x'))) ρ w:=
 ⟨⟨R.hr.write hk hp (AQ.refl _ _) hc hO,R.fr.out (Bi.write trivial hk hp (AQ.refl p.foot w))⟩,BO.write hk hp (AQ.refl _ _)⟩
theorem Ep.relock {p:AN} {n:Nat} {ls:List (Option KS)} {vs:Array Value} (hS:Ep w p n ls none vs) {i:Nat} (hi:(ls.getD i none).isSome=true): ∃ g:LK,Ep w p n ls (some (i,g)) vs:=by
 obtain ⟨mb,g1,g2,g3,es,AZ,g4,_⟩:=hS.has i _ (OO hi);refine ⟨(mb,es,AZ),{ hS with has:=fun j l hl=>?_ }⟩
 by_cases e:j=i
 ·subst e;have:l=(ls.getD j none).getD []:=by have:=OO hi;rw [hl] at this;exact yY (yY this)
  subst this;exact ⟨mb,g1,g2,g3,es,AZ,g4,fun x hx _=>by cases hx;rfl⟩
 ·obtain ⟨b,k1,k2,k3,HV,c1,k4,_⟩:=hS.has j l hl;exact ⟨b,k1,k2,k3,HV,c1,k4,fun x hx hj=>by cases hx;exact absurd hj.symm e⟩
theorem Ep.unlock {p:AN} {n:Nat} {ls:List (Option KS)} {lk:Option (Nat×LK)} {vs:Array Value} (hS:Ep w p n ls lk vs):Ep w p n ls none vs:=
 { hS with has:=fun j l hl=>let ⟨b,k1,k2,k3,HV,c1,k4,_⟩:=hS.has j l hl;⟨b,k1,k2,k3,HV,c1,k4,fun x hx=>by cases hx⟩ }
theorem Tr.lock {c:Code} {j i n:Nat} {ls:List (Option KS)} (hk:S.h[j]? =some (some (.mo (.sets n ls none)))) (hi:(ls.getD i none).isSome=true) (H: ∀ g:LK,Tr P Γ F B L Y c ⟨S.fr,S.h.set j (some (.mo (.sets n ls (some (i,g)))))⟩ Q):Tr P Γ F B L Y c S Q:=fun N ρ a w R y m b=>by
 obtain ⟨p,hp,vs,hS⟩:=R.hr.obj j _ hk;obtain ⟨g,LE⟩:=hS.relock hi;obtain ⟨R',st⟩:=R.setMo hk hp (x':=.sets n ls (some (i,g))) ⟨vs,LE⟩ fun b hb=>hS.lies hb
 exact H g N ρ a w R' (Y.st y R.hr R'.hr st (EH.refl _ _)) m b
def dg:List KI -> Bool
 | .code _::_=>true
 | _=>false
theorem BY.lock {K:List KI} {fr:List DV} {h:DH} (j i n:Nat) {ls:List (Option KS)} (hk:h[j]? =some (some (.mo (.sets n ls none)))) (hi:(ls.getD i none).isSome=true) (hK:dg K=true) (h':LK -> DH) (he:h'=fun g=>h.set j (some (.mo (.sets n ls (some (i,g)))))) (H: ∀ g:LK,A1 P Γ F B L Y Q K ⟨fr,h' g⟩):A1 P Γ F B L Y Q K ⟨fr,h⟩:=by
 subst he;unfold dg at hK;split at hK
 ·exact Tr.lock (S:=⟨fr,h⟩) hk hi H
 ·cases hK
theorem pL (R:Ad P Γ N S ρ a w) {m j n n' i:Nat} {ls:List (Option KS)} {g:LK} {rem:KS} {EU:Option (List Int)} (hm:S.h[m]? =some (some (.mo (.mit n g.1 g.2.1 g.2.2 rem EU)))) (hj:S.h[j]? =some (some (.mo (.sets n' ls (some (i,g)))))) (hi:(ls.getD i none).isSome=true) {v:Value} (hv:AO (MS N S.h ρ) w (.it m) ρ v) (ty:TypeId):
 (rem= []/\ (Instr.next v false ty).run P w= .ok (.tuple #[.bool false]) w)∨∃ y∈rem,∃ (k u:Value) (w':World) (p:AN),(Instr.next v false ty).run P w= .ok (.tuple #[.bool true,k,u]) w'/\ ρ[m]? =some p/\ AQ p.foot w w'/\ LX w' p (.mit n g.1 g.2.1 g.2.2 (rem.erase y) (some y))/\ ∀ b,p.foot b -> DD w' b:=by
 obtain ⟨p,hp,rfl⟩:=hv;obtain ⟨p',BJ,h0,h1,h2,seen,h3,h4,h5⟩:=R.hr.obj m _ hm;have:p'=p:=yY (BJ.symm.trans hp);subst this;obtain ⟨q,hq,vs,hS⟩:=R.hr.obj j _ hj;obtain ⟨b,k1,k2,k3,HV,Un,k4,k5⟩:=hS.has i _ (OO hi);have k5:=k5 _ rfl rfl;obtain ⟨mb,es,AZ⟩:=g
 have e3:mb=b/\ es=HV/\ AZ=Un:=by
  have:(mb,es,AZ)=(b,HV,Un):=k5;simpa using this
 obtain ⟨rfl,rfl,rfl⟩:=e3;simp only at h3 h4 h5;rw [h1];have K6: ∀ x∈es.toList,x.born<AZ:=k4.born;rcases mi (P:=P) h3 k4.blk K6 (ym _) ty with ⟨e1,e2⟩ | ⟨e,he,w1,QO,e2⟩
 ·refine .inl ⟨?_,e2⟩;have:(leftOf es seen)= #[]:=zAZ e1;rw [this] at h4;have:=h4.length_eq;simp at this;exact zp this.symm
 ·have uc:e.key∈rem.map BL:=h4.mem_iff.1 (zh.2 ⟨e,he,rfl⟩);obtain ⟨y,hy,dy⟩:=zh.1 uc;have uZ:e∈es.toList:=by simp [leftOf] at he ⊢;exact he.1
  have sI:p'.blk<w.heap.size:=(yR.1 h3).1;have rb:w1.heap=w.heap:=by rcases QO with rfl | rfl <;> rfl
  have hU:AQ p'.foot w { w1 with heap:=w1.heap.setIfInBounds p'.blk (.mapIter (some mb) AZ (seen.push e.born) AZ) }:=by
   rw [h2]
   have u1:AQ (fun k=>k=p'.blk) w w1:=by
    rcases QO with rfl | rfl
    ·exact AQ.refl _ _
    ·exact AQ.ofExt (Au.toDrew w)
   exact u1.trans (Ow _)
  have HP:({ w1 with heap:=w1.heap.setIfInBounds p'.blk (.mapIter (some mb) AZ (seen.push e.born) AZ) }:World).heap[p'.blk]? =some (.mapIter (some mb) AZ (seen.push e.born) AZ):=by
   show (w1.heap.setIfInBounds _ _)[_]? =_
   simp [rb,sI]
  refine .inr ⟨y,hy,e.key,e.val,_,p',e2,hp,hU,⟨fun x hx=>?_,h1,h2,seen.push e.born,HP,?_,fun x hx=>?_⟩,fun b hb=>?_⟩
  ·rcases hx with hx | hx
   ·exact h0 x (.inl (zBJ hx))
   ·have ex:y=x:=yY hx;subst ex;exact h0 y (.inl hy)
  ·have hl:leftOf es (seen.push e.born)=(leftOf es seen).filter fun x=>x.born != e.born:=by
    unfold leftOf;rw [Array.filter_filter]
    congr 1
    funext x
    simp only [Array.contains_push,Bool.not_or];rw [Bool.and_comm];simp [bne,Bool.beq_comm]
   have BA:((leftOf es seen).toList.map (·.born)).Nodup:=by
    have:((leftOf es seen).toList.map (·.born)).Sublist (es.toList.map (·.born)):=by
     unfold leftOf;rw [Array.toList_filter];exact List.filter_sublist.map _
    exact this.nodup k4.stamps
   have uW: ∀ (l:List MapEntry),(l.map (·.born)).Nodup -> e∈l -> (l.map (·.key)).Perm (e.key::((l.filter fun x=>x.born != e.born).map (·.key))):=by
    intro l
    induction l with
    | nil=>intro _ h;cases h
    | cons x l ih=>
     intro hn hx;rw [zy,zBS] at hn
     by_cases dz:x=e
     ·subst dz
      have:(l.filter fun y=>y.born != x.born)=l:=List.filter_eq_self.2 fun y hy=>by
       simp only [zl,ne_eq];exact fun hc=>hn.1 (by rw [←hc];exact zh.2 ⟨y,hy,rfl⟩)
      simp [this]
     ·have Qc:e∈l:=(yq.1 hx).resolve_left fun h=>dz h.symm
      have Ap:(x.born != e.born)=true:=by
       simp only [zl,ne_eq];exact fun hc=>hn.1 (by rw [hc];exact zh.2 ⟨e,Qc,rfl⟩)
      rw [List.filter_cons,yP Ap,zy,zy];exact ((ih hn.2 Qc).cons x.key).trans (List.Perm.swap e.key x.key _)
   have P1:=uW _ BA he;rw [hl,Array.toList_filter];have P2:(rem.map BL).Perm (BL y::(rem.erase y).map BL):=(List.perm_cons_erase hy).map BL;have P3:=P1.symm.trans (h4.trans P2);rw [←dy] at P3;exact List.Perm.cons_inv P3
  ·have ex:y=x:=yY hx;subst ex;exact ⟨e,uZ,dy.symm,by simp⟩
  ·rw [h2] at hb;exact ⟨_,rfl,(),by rw [show b=p'.blk from hb];exact HP⟩
theorem Tr.next (hF:Dl F P) {id:Nat} {ops:Array Oper} (BA:Dq ops=true) {o:Oper} {rest:List Oper} (Tq:ops.toList=o::rest) {x:Operand} (ho:o.op= .next x false) (hw:KR ops S o=some true) {m j n n' i:Nat} {ls:List (Option KS)} {g:LK} {rem:KS} {EU:Option (List Int)} (hx:Ac S.fr x= .it m) (hm:S.h[m]? =some (some (.mo (.mit n g.1 g.2.1 g.2.2 rem EU)))) (hj:S.h[j]? =some (some (.mo (.sets n' ls (some (i,g)))))) (eQ:m≠j) (hi:(ls.getD i none).isSome=true)
 (h0:rem= [] -> ∃ S' vs o0 o',Ej P Γ ops rest ⟨Do S.fr o.dst (.tup 1 (L1 [.bool false])),(S.h.set j (some (.mo (.sets n' ls none)))).set m none⟩ o0=some (S',vs,o')/\ Bl vs/\ Q .normal S' Y)
 (h1: ∀ y∈rem,∃ S' vs o0 o',Ej P Γ ops rest ⟨Do S.fr o.dst (.tup 3 (L1 [.bool true])),S.h.set m (some (.mo (.mit n g.1 g.2.1 g.2.2 (rem.erase y) (some y))))⟩ o0=some (S',vs,o')/\ Bl vs/\ Q .normal S' Y):Tr P Γ F B L Y (.region id ops false) S Q:=fun N ρ a w R y mk b=>by
 refine wpIn_region_list ?_;rw [Tq];have hd: ∀ c,o.op≠.defer c:=fun c e=>by rw [ho] at e;cases e
 have EA: ∀ o'∈rest,o'∈ops:=fun o' I0=>by
  have:o'∈ops.toList:=by rw [Tq];exact yx _ I0
  simpa using this
 have C1: ∀ v,(a.put o.dst v).defers=a.defers:=fun v=>by cases ho:o.dst <;> simp [Act.put]
 have rx:=Bm R x;rw [hx] at rx;unfold wpListIn;rw [yP (JQ R hw)];have I6:execOp a.eval o=(do pure (.value (←Instr.next (a.eval x) false o.type))):=by unfold execOp;rw [ho]
 have AU:m<S.h.length:=(yZ.1 hm).1;rcases pL R hm hj hi rx o.type with ⟨e1,e2⟩ | ⟨ky,uJ,k,u,w',p,e2,hp,hU,hO,hC⟩
 ·obtain ⟨S',vs,o0,o',g1,g2,g3⟩:=h0 e1;obtain ⟨q,hq,jG,hS⟩:=R.hr.obj j _ hj;obtain ⟨R1,NL⟩:=R.setMo hj hq (x':=.sets n' ls none) ⟨jG,hS.unlock⟩ fun b hb=>hS.lies hb
  have R2:Ad P Γ N ⟨S.fr,(S.h.set j (some (.mo (.sets n' ls none)))).set m none⟩ ρ a w:=⟨R1.hr.kill m,R1.fr.out (Bi.kill m)⟩
  have R3:=Ho R2 o.dst (d:=.tup 1 (L1 [.bool false])) (v:=.tuple #[.bool false]) ⟨#[.bool false],rfl,rfl,fun jj K8=>by
   have:jj=0:=by omega
   subst this;exact ⟨_,rfl,rfl⟩⟩
  refine KA hF hd (G:=fun v w2=>v= .tuple #[.bool false]/\ w2=w) (BT.value (s:=Instr.next (a.eval x) false o.type) I6 e2 ⟨rfl,rfl⟩) fun v w2 ⟨hv,QN⟩=>?_
  subst hv QN;refine LG hF BA rest EA R3 g1 g2 fun ρ' a' w3 R' st Dj=>?_
  exact Tr.done R y mk b g3 R' ((NL.trans (BO.kill m)).trans st.st) (fun k p _ hp=>st.pl k p hp) (Dj.trans (C1 _))
 ·obtain ⟨S',vs,o0,o',g1,g2,g3⟩:=h1 ky uJ;have NL:=BO.write (h:=S.h) (o':=.mo (.mit n g.1 g.2.1 g.2.2 (rem.erase ky) (some ky))) hm hp hU;have R1:Ad P Γ N ⟨S.fr,S.h.set m (some (.mo (.mit n g.1 g.2.1 g.2.2 (rem.erase ky) (some ky))))⟩ ρ a w':=⟨R.hr.write hm hp hU hC hO,R.fr.out (Bi.write trivial hm hp hU)⟩
  have R3:=Ho R1 o.dst (d:=.tup 3 (L1 [.bool true])) (v:=.tuple #[.bool true,k,u]) ⟨#[.bool true,k,u],rfl,rfl,fun jj K8=>by
   match jj,K8 with
   | 0,_=>exact ⟨_,rfl,rfl⟩
   | 1,_=>exact ⟨_,rfl,trivial⟩
   | 2,_=>exact ⟨_,rfl,trivial⟩⟩
  refine KA hF hd (G:=fun v w2=>v= .tuple #[.bool true,k,u]/\ w2=w') (BT.value (s:=Instr.next (a.eval x) false o.type) I6 e2 ⟨rfl,rfl⟩) fun v w2 ⟨hv,QN⟩=>?_
  subst hv QN;refine LG hF BA rest EA R3 g1 g2 fun ρ' a' w3 R' st Dj=>?_
  exact Tr.done R y mk b g3 R' (NL.trans st.st) (fun k p _ hp=>st.pl k p hp) (Dj.trans (C1 _))
def WT (ops:Array Oper):Operand:=match ops.toList with
 | o::_=>match o.op with
  | .next x _=>x
  | _=>.tmp 0
 | []=>.tmp 0
def S8 (ops:Array Oper):Option Tmp:=match ops.toList with
 | o::_=>o.dst
 | []=>none
def L9 (ops:Array Oper):List Oper:=ops.toList.tail
def WU (ops:Array Oper):Bool:=match ops.toList with
 | o::_=>match o.op with
  | .next _ false=>o.guard.isNone&&Dq ops
  | _=>false
 | []=>false
theorem o9 {ops:Array Oper} (h:WU ops=true):Dq ops=true/\ ∃ o,ops.toList=o::L9 ops/\ o.op= .next (WT ops) false/\ o.guard=none/\ o.dst=S8 ops:=by
 unfold WU at h;unfold WT S8 L9;split at h
 ·rename_i o rest Tq;rw [Tq];split at h
  ·rename_i x ho;simp only [yT,Option.isNone_iff_eq_none] at h;refine ⟨h.2,o,rfl,?_,h.1,rfl⟩;simp only [ho]
  ·cases h
 ·cases h
def S0 (live σ:List Nat) (L:Nat) (r:St×List Prop×Bw):List DV×DH×List Prop×Bool:=((comp live σ r.1).fr,(comp live σ r.1).h,r.2.1,JW σ L r.1.h.length)
theorem A1.nx (hX:HX F P) {K:List KI} {ops:Array Oper} {fr:List DV} {h:DH} (hK:Lx K=some (ops,D1 K)) (CI:WU ops=true) (m j i n:Nat) (ls:List (Option KS)) (g:LK) (rem:KS) (EU:Option (List Int)) (live σ:List Nat) (fj:List DV) (h0:DH) (σ1:List Nat) (UF:List Int -> List DV) (h1:List Int -> DH)
 (hx:Ac fr (WT ops)= .it m) (hm:h[m]? =some (some (.mo (.mit n g.1 g.2.1 g.2.2 rem EU)))) (hj:h[j]? =some (some (.mo (.sets n ls (some (i,g)))))) (eQ:m≠j) (hi:(ls.getD i none).isSome=true) (hc:H3 (D1 K)=true)
 (c0:(Ej P Γ ops (L9 ops) ⟨Do fr (S8 ops) (.tup 1 (L1 [.bool false])),(h.set j (some (.mo (.sets n ls none)))).set m none⟩ ⟨[],[],[],[]⟩).map (S0 live σ L)=some (fj,h0,[],true))
 (c1: ∀ y,(Ej P Γ ops (L9 ops) ⟨Do fr (S8 ops) (.tup 3 (L1 [.bool true])),h.set m (some (.mo (.mit n g.1 g.2.1 g.2.2 (rem.erase y) (some y))))⟩ ⟨[],[],[],[]⟩).map (S0 live σ1 L)=some (UF y,h1 y,[],true))
 (k0:rem= [] -> A1 P Γ F B L Y Q (D1 K) ⟨fj,h0⟩) (k1: ∀ y∈rem,A1 P Γ F B L Y Q (D1 K) ⟨UF y,h1 y⟩):A1 P Γ F B L Y Q K ⟨fr,h⟩:=by
 have go: ∀ {S:St} {live σ:List Nat} {Mt:List DV} {h':DH},(Ej P Γ ops (L9 ops) S ⟨[],[],[],[]⟩).map (S0 live σ L)=some (Mt,h',[],true) -> A1 P Γ F B L Y Q (D1 K) ⟨Mt,h'⟩ -> ∃ S' vs o0 o',Ej P Γ ops (L9 ops) S o0=some (S',vs,o')/\ Bl vs/\ A1 P Γ F B L Y Q (D1 K) S':=by
  intro S live σ Mt h' Ml hk;cases hr:Ej P Γ ops (L9 ops) S ⟨[],[],[],[]⟩ with
  | none=>rw [hr] at Ml;cases Ml
  | some r=>
   obtain ⟨S1,v1,o1⟩:=r;rw [hr] at Ml;simp only [zD,S0,ze,zv] at Ml;obtain ⟨rfl,rfl,rfl,hs⟩:=Ml;exact ⟨S1,_,_,_,hr,trivial,BY.le (BW.comp live σ S1 hs) hc hk⟩
 unfold Lx at hK;split at hK
 ·rename_i id oe k';have e:=yY hK;simp only [D1,zv,and_true] at e;subst e;obtain ⟨BA,o,q1,q2,q3,q4⟩:=o9 CI;exact Tr.next (S:=⟨fr,h⟩) hX.f BA q1 q2 (by unfold KR;rw [q3]) hx hm hj eQ hi (fun e=>by rw [q4];exact go c0 (k0 e)) (fun y hy=>by rw [q4];exact go (c1 y) (k1 y hy))
 ·cases hK
end
end Go.Proofs.YtgkhhfnhacibcaaGreatDoor
namespace Go.Proofs.YtgkhhfnhacibcaaGreatDoor
abbrev yd:=@Nat.lt_succ_iff_lt_or_eq
abbrev zT:=@List.mem_cons_self
end Go.Proofs.YtgkhhfnhacibcaaGreatDoor
namespace Go.Proofs.YtgkhhfnhacibcaaGreatDoor
open Go.RowKit
def Ae {R:Type} (f:Nat -> Option R) (Q:R -> Prop):Prop:=∃ N,∀ n,N<=n -> ∃ r,f n=some r/\ Q r
def Ev {R:Type} (f:Nat -> Option R) (r:R):Prop:=∃ N,∀ n,N<=n -> f n=some r
section
variable {R T:Type} {f g:Nat -> Option R} {Q Q':R -> Prop} {r:R}
theorem Ev.p (h:Ev f r) (hq:Q r):Ae f Q:=let ⟨N,h⟩:=h;⟨N,fun n hn=>⟨r,h n hn,hq⟩⟩
theorem Ae.ev (h:Ae f Q) (hu: ∀ r r',Q r -> Q r' -> r=r'): ∃ r,Q r/\ Ev f r:=by
 obtain ⟨N,h⟩:=h;obtain ⟨r,h1,h2⟩:=h N (ym _);refine ⟨r,h2,N,fun n hn=>?_⟩;obtain ⟨r',h3,h4⟩:=h n hn;rw [h3,hu _ _ h4 h2]
theorem Ae.mono (h:Ae f Q) (hq: ∀ r,Q r -> Q' r):Ae f Q':=let ⟨N,h⟩:=h;⟨N,fun n hn=>let ⟨r,h1,h2⟩:=h n hn;⟨r,h1,hq r h2⟩⟩
theorem Ae.step (k:Nat) (h: ∀ n,f (n+k)=g n) (hg:Ae g Q):Ae f Q:=by
 obtain ⟨N,hg⟩:=hg;refine ⟨N+k,fun n hn=>?_⟩;have:=hg (n-k) (by omega);rw [←h,show n-k+k=n by omega] at this;exact this
theorem Ev.step (k:Nat) (h: ∀ n,f (n+k)=g n) (hg:Ev g r):Ev f r:=by
 obtain ⟨N,hg⟩:=hg;refine ⟨N+k,fun n hn=>?_⟩;have:=hg (n-k) (by omega)
 rwa [←h,show n-k+k=n by omega] at this
theorem Ev.now (h: ∀ n,f n=some r):Ev f r:=⟨0,fun n _=>h n⟩
theorem Ev.eq {f g:Nat -> Option R} (h:Ev g r) (e: ∀ n,f n=g n):Ev f r:=let ⟨N,h⟩:=h;⟨N,fun n hn=>(e n).trans (h n hn)⟩
theorem Ae.eq {f g:Nat -> Option R} (h:Ae g Q) (e: ∀ n,f n=g n):Ae f Q:=let ⟨N,h⟩:=h;⟨N,fun n hn=>by rw [e];exact h n hn⟩
theorem Ev.bind {a:Nat -> Option T} {x:T} {b:Nat -> T -> Option R} (ha:Ev a x) (hb:Ev (fun n=>b n x) r):Ev (fun n=>(a n).bind (b n)) r:=by
 obtain ⟨N,ha⟩:=ha;obtain ⟨M,hb⟩:=hb;refine ⟨max N M,fun n hn=>?_⟩
 show (a n).bind (b n)=_
 rw [ha n (by omega),yX];exact hb n (by omega)
theorem Ae.bind {a:Nat -> Option T} {x:T} {b:Nat -> T -> Option R} (ha:Ev a x) (hb:Ae (fun n=>b n x) Q):Ae (fun n=>(a n).bind (b n)) Q:=by
 obtain ⟨N,ha⟩:=ha;obtain ⟨M,hb⟩:=hb;refine ⟨max N M,fun n hn=>?_⟩
 show ∃ r,(a n).bind (b n)=some r/\ _
 rw [ha n (by omega),yX];exact hb n (by omega)
theorem Ae.all {l:List T} {F:T -> Nat -> Option R} (h: ∀ y∈l,Ae (F y) Q): ∃ N,∀ n,N<=n -> ∀ y∈l,∃ r,F y n=some r/\ Q r:=by
 induction l with
 | nil=>exact ⟨0,fun n _ y hy=>absurd hy zAA⟩
 | cons x l ih=>
  obtain ⟨N,hN⟩:=ih fun y hy=>h y (yx _ hy)
  obtain ⟨M,hM⟩:=h x zT;refine ⟨max N M,fun n hn y hy=>?_⟩;rcases yq.1 hy with rfl | hy
  ·exact hM n (by omega)
  ·exact hN n (by omega) y hy
theorem Ae.range {F:Nat -> Nat -> Option R} {A:Nat -> R -> Prop}: ∀ (k:Nat),(∀ i,i<k -> Ae (F i) (A i)) -> ∃ N,∀ n,N<=n -> ∀ i,i<k -> ∃ r,F i n=some r/\ A i r
 | 0,_=>⟨0,fun n _ i hi=>absurd hi (yg i)⟩
 | k+1,h=>by
  obtain ⟨N,hN⟩:=Ae.range k fun i hi=>h i (by omega)
  obtain ⟨M,hM⟩:=h k (by omega);refine ⟨max N M,fun n hn i hi=>?_⟩;rcases yd.1 hi with hi | rfl
  ·exact hN n (by omega) i hi
  ·exact hM n (by omega)
theorem Ae.next [DecidableEq R] {rem:KS} {a:Nat -> Option R} {F:Nat -> List Int -> Option R} (hn:rem≠[]) (h: ∀ y∈rem,Ae (fun n=>F n y) Q) (hu: ∀ r r',Q r -> Q r' -> r=r'):Ae (fun n=>HI rem (a n) (F n)) Q:=by
 obtain ⟨N,hN⟩:=Ae.all h;refine ⟨N,fun n N9=>?_⟩;obtain ⟨y0,rY⟩:=List.exists_mem_of_ne_nil rem hn;obtain ⟨r,h1,h2⟩:=hN n N9 y0 rY;refine ⟨r,ol hn fun y hy=>?_,h2⟩;obtain ⟨r',h3,h4⟩:=hN n N9 y hy;rw [hu _ _ h2 h4];exact h3
end
end Go.Proofs.YtgkhhfnhacibcaaGreatDoor
namespace Go.Proofs.YtgkhhfnhacibcaaGreatDoor
open Go.RowKit
class HC (F:Fence):Prop where
 x:HX F Tryz.prog
 w:F=Fence.wide∨∃ l,F=Fence.wide.inRound l
instance:HC Fence.wide:=⟨⟨Dl.wide,by kernel_rfl⟩,.inl rfl⟩
instance (l:Nat):HC (Fence.wide.inRound l):=⟨⟨Dl.round l,by kernel_rfl⟩,.inr ⟨l,rfl⟩⟩
abbrev DV.i (x:Int):DV:=.int .i64 x
def AF:Bh:=fun _=>.no
def HK:Nat -> List DV -> List Nat
 | _,[]=>[]
 | i,.any::r=>HK (i+1) r
 | i,_::r=>i::HK (i+1) r
section
variable {F:Fence} {B:Option Nat} {L:Nat} {Y N:Bg Tryz.prog GG L} {Q:QY Tryz.prog GG L} {k k':List KI} {S:St} {fr:List DV} {h' h2:DH} {c:List (DV×DH×Bool)} {o:List (Nat×DV)} {z:List (Nat×Fz)} {v w:List Prop}
theorem gz [hX:HC F] (A6:Bh) (σ:List Nat) (hl:HS c o z v) (ks:List Nat) (hz:HS [] [] [] w) (k':List KI) (fr:List DV) (h':DH) (hk:A1 Tryz.prog GG F B L Y Q k' ⟨fr,h'⟩) (tg:List (List (Nat×Nat)×St):=[])
 (h:(B2 Tryz.prog GG A6 400 k S ⟨c,o,z,tg⟩).bind (Kq (HK 0 fr) σ L ks)=some (.at k',fr,h',v,w,[],[],true):=by kernel_rfl) (hc:H3 k'=true:=by kernel_rfl):A1 Tryz.prog GG F B L Y Q k S:=
 BY.gS hX.x A6 400 (HK 0 fr) σ tg hl ks hz k' fr h' h hc hk
theorem gs [hX:HC F] (A6:Bh) (σ:List Nat) (hl:HS c o z v) (k':List KI) (fr:List DV) (h':DH) (hk:A1 Tryz.prog GG F B L Y Q k' ⟨fr,h'⟩) (tg:List (List (Nat×Nat)×St):=[])
 (h:(B2 Tryz.prog GG A6 400 k S ⟨c,o,z,tg⟩).bind (Kq (HK 0 fr) σ L [])=some (.at k',fr,h',v,[],[],[],true):=by kernel_rfl) (hc:H3 k'=true:=by kernel_rfl):A1 Tryz.prog GG F B L Y Q k S:=
 BY.gS hX.x A6 400 (HK 0 fr) σ tg hl [] H0 k' fr h' h hc hk
theorem gg [hX:HC F] (A6:Bh) (σ:List Nat) (hl:HS c o z v) (hk:A1 Tryz.prog GG F B L Y Q k' ⟨fr,h'⟩) (tg:List (List (Nat×Nat)×St):=[])
 (h:(B2 Tryz.prog GG A6 400 k S ⟨c,o,z,tg⟩).bind (Kq (HK 0 fr) σ L [])=some (.at k',fr,h',v,[],[],[],true):=by kernel_rfl) (hc:H3 k'=true:=by kernel_rfl):A1 Tryz.prog GG F B L Y Q k S:=
 BY.gS hX.x A6 400 (HK 0 fr) σ tg hl [] H0 k' fr h' h hc hk
theorem el [hX:HC F] {fn:Func} {d:DV} (A6:Bh) (live σ:List Nat) (hl:HS c o z v) (ks:List Nat) (hz:HS [] [] [] w) (rs:List DV) (le:AS (IY rs) d) (tg:List (List (Nat×Nat)×St):=[])
 (h:(B2 Tryz.prog GG A6 400 k S ⟨c,o,z,tg⟩).bind (In Tryz.prog live σ L ks fn d h2.length)=some (true,rs,h2,v,w,[],[],true):=by kernel_rfl):BY Tryz.prog GG F B L N (Fo Tryz.prog fn L d h2) k S:=
 BY.el hX.x A6 400 live σ tg hl ks hz rs le h
theorem ez [hX:HC F] {fn:Func} {d:DV} (A6:Bh) (live σ:List Nat) (hl:HS c o z v) (ks:List Nat) (hz:HS [] [] [] w) (tg:List (List (Nat×Nat)×St):=[])
 (h:(B2 Tryz.prog GG A6 400 k S ⟨c,o,z,tg⟩).bind (fun r=>(In Tryz.prog live σ L ks fn d h2.length r).map fun q=>(q.1,IY q.2.1,q.2.2))=some (true,d,h2,v,w,[],[],true):=by kernel_rfl):BY Tryz.prog GG F B L N (Fo Tryz.prog fn L d h2) k S:=
 BY.e hX.x A6 400 live σ tg hl ks hz h
theorem ee [hX:HC F] {fn:Func} {d:DV} (A6:Bh) (live σ:List Nat) (hl:HS c o z v) (tg:List (List (Nat×Nat)×St):=[])
 (h:(B2 Tryz.prog GG A6 400 k S ⟨c,o,z,tg⟩).bind (fun r=>(In Tryz.prog live σ L [] fn d h2.length r).map fun q=>(q.1,IY q.2.1,q.2.2))=some (true,d,h2,v,[],[],[],true):=by kernel_rfl):BY Tryz.prog GG F B L N (Fo Tryz.prog fn L d h2) k S:=
 BY.e hX.x A6 400 live σ tg hl [] H0 h
theorem rr [hX:HC F] {ex:List Exit} {i:Nat} {e:Exit} (A6:Bh) (σ:List Nat) (he:(Exit.normal::ex)[i]? =some e) (hl:HS c o z v) (tg:List (List (Nat×Nat)×St):=[])
 (h:(B2 Tryz.prog GG A6 400 k S ⟨c,o,z,tg⟩).map (WN σ L)=some (some e,h2,v,[],[],[],true):=by kernel_rfl):BY Tryz.prog GG F B L N (Cs L ex i h2) k S:=
 BY.r hX.x A6 400 σ tg hl he h
theorem ag [hX:HC F] {Q:Exit -> St -> Prop} {assign body:Code} (A6:Bh) (σ:List Nat) (hl:HS c o z v) (fr:List DV) (h':DH) (hk: ∀ N2:Bg Tryz.prog GG L,BY Tryz.prog GG F B L N2 Q [.code body] ⟨fr,h'⟩)
 (h:(B2 Tryz.prog GG A6 400 [.code assign] S ⟨c,o,z,[]⟩).map (Pq (HK 0 fr) σ L)=some (.at [],fr,h',v,[],[],true):=by kernel_rfl):GB Tryz.prog GG F B L N Q assign body S:=
 GB.g hX.x A6 400 (HK 0 fr) σ hl fr h' h hk
theorem rd {n m:Nat} (hm:n+1<=m) (h: ∀ m,n<=m -> A1 Tryz.prog GG F B L Y Q (Zd m k) S) (hk:MN k=true:=by kernel_rfl):A1 Tryz.prog GG F B L Y Q (A4 m k) S:=BY.round hm hk h
theorem en (m:Nat) (h:A1 Tryz.prog GG F B L Y Q (A4 m k) S) (hk:MN k=true:=by kernel_rfl):A1 Tryz.prog GG F B L Y Q k S:=BY.enter m hk h
end
theorem eu {f:Nat} {ds:List DV} {h:DH} {d:DV} {h':DH} {ext:Bool} (Ei:ES Tryz.prog GG f ds h d h' ext) (σ:List Nat) (H:DH) (k:Nat) (hb:LO σ H.length h.length h'.length=true:=by kernel_rfl) (hk:σ.all (fun j=>Nat.ble k j)=true:=by kernel_rfl) (hh:(σ.map fun k=>H.getD k none)=h.map (EI σ H.length):=by kernel_rfl):ND Tryz.prog GG f (ds.map (up σ H.length)) H (up σ H.length d) (Em H σ h') k:=Ei.embedU σ H k hb hk hh
theorem em {f:Nat} {ds:List DV} {h:DH} {d:DV} {h':DH} {ext:Bool} (Ei:ES Tryz.prog GG f ds h d h' ext) (σ:List Nat) (H:DH) (hb:LO σ H.length h.length h'.length=true:=by kernel_rfl) (hh:(σ.map fun k=>H.getD k none)=h.map (EI σ H.length):=by kernel_rfl):ES Tryz.prog GG f (ds.map (up σ H.length)) H (up σ H.length d) (Em H σ h') ext:=ES.emC Ei σ H hb hh
theorem fb {f:Nat} {ds:List DV} {d:DV} (h0:ES Tryz.prog GG f ds [] d [] true) (h:DH) (FM:ds.all Gl=true:=by kernel_rfl):ES Tryz.prog GG f ds h d h true:=ES.frameB h0 h FM
theorem sb {f:Nat} (ds:List DV) {DX:List DV} {d:DV} (h0:ES Tryz.prog GG f DX [] d [] true) (h:DH) (hs:LT h ds DX) (hd:SC d=true:=by kernel_rfl):ES Tryz.prog GG f ds h d h true:=ES.snapB h0 h hs hd
theorem ot {f:Nat} {fn:Func} {ds:List DV} {h:DH} {d:DV} {h':DH} {ext:Bool} (hf:Tryz.prog.funcs[f]? =some fn) (H: ∀ (B:Nat) (N:Bg Tryz.prog GG h.length),BY Tryz.prog GG Fence.wide (some B) h.length N (Fo Tryz.prog fn h.length d h') (start fn) ⟨ds++List.replicate (fn.ntmps-ds.length) .any,h⟩)
 (hb:fn.body.isSome=true:=by kernel_rfl) (J0:(fn.name== "runtime.NumGoroutine")=false:=by kernel_rfl) (QT:h'.all WY=true:=by kernel_rfl) (I5:(!ext||h.isEmpty)=true:=by kernel_rfl):ES Tryz.prog GG f ds h d h' ext:=
 ES.of_trk hf hb J0 (cZ QT) (fun e=>by subst e;simpa using I5) H
section
variable {F:Fence} {B L:Nat} {Y:Bg Tryz.prog GG L} {Q:QY Tryz.prog GG L} {fr:List DV} {h:DH} {K:List KI} {a b:Code} {α σ:Type} {l:List α} {H:σ -> DH} {FR:α -> List DV}
theorem rx [hX:HC F] (ex:List Exit) (kk t:Nat) (ps:Array Tmp) (enc:α -> Array Value) (L':Nat) {f:α -> σ -> Option (σ×Nat)} {s0:σ} {rE:σ×Nat} (hf:ET f l s0=some rE)
 (DU: ∀ (l B:Nat) (N:Bg Tryz.prog GG L') (x:α) (s:σ) (r:σ×Nat),f x s=some r -> GB Tryz.prog GG (Fence.wide.inRound l) (some B) L' N (Cs L' ex r.2 (H r.1)) a b ⟨FR x,H s⟩)
 (EB: ∀ e,(Exit.normal::ex)[rE.2]? =some e -> DZ Tryz.prog GG F (some B) L Q (D1 K) e ⟨fr,H rE.1⟩ Y) (I6:(ex.all fun e=>(J8 e).isSome)=true:=by kernel_rfl)
 (hK:Lw K=some (.tmp t,ps,a,b,D1 K):=by kernel_rfl) (hg:Ac fr (.tmp t)= .it kk:=by kernel_rfl) (hk:h[kk]? =some (some (.iter (l.map enc))):=by kernel_rfl) (Du: ∀ x,(enc x).size=ps.size:=by exact fun _=>rfl) (hL:Nat.ble L L'=true:=by kernel_rfl) (F8:fr.all (GJ L')=true:=by kernel_rfl) (h0:h.set kk none=H s0:=by kernel_rfl) (Di:(fun x=>JX fr ps.toList (enc x).toList)=FR:=by kernel_rfl):A1 Tryz.prog GG F (some B) L Y Q K ⟨fr,h⟩:=
 BY.rg hX.w ex I6 kk t ps enc L' hf DU hK hg hk Du hL F8 h0 Di EB
theorem r0 [hX:HC F] (kk t:Nat) (ps:Array Tmp) (enc:α -> Array Value) (L':Nat) {f:α -> σ -> Option σ} {s0 sE:σ} (hf:By f l s0=some sE)
 (DU: ∀ (l B:Nat) (N:Bg Tryz.prog GG L') (x:α) (s r:σ),f x s=some r -> GB Tryz.prog GG (Fence.wide.inRound l) (some B) L' N (Cs L' [] 0 (H r)) a b ⟨FR x,H s⟩)
 (EB:A1 Tryz.prog GG F (some B) L Y Q (D1 K) ⟨fr,H sE⟩)
 (hK:Lw K=some (.tmp t,ps,a,b,D1 K):=by kernel_rfl) (hg:Ac fr (.tmp t)= .it kk:=by kernel_rfl) (hk:h[kk]? =some (some (.iter (l.map enc))):=by kernel_rfl) (Du: ∀ x,(enc x).size=ps.size:=by exact fun _=>rfl) (hL:Nat.ble L L'=true:=by kernel_rfl) (F8:fr.all (GJ L')=true:=by kernel_rfl) (h0:h.set kk none=H s0:=by kernel_rfl) (Di:(fun x=>JX fr ps.toList (enc x).toList)=FR:=by kernel_rfl):A1 Tryz.prog GG F (some B) L Y Q K ⟨fr,h⟩:=
 BY.rg0 hX.w kk t ps enc L' hf DU hK hg hk Du hL F8 h0 Di EB
end
abbrev Yd (L:Nat):=Bg Tryz.prog GG L
abbrev EQ:=ES Tryz.prog GG
abbrev FQ:=Fo Tryz.prog
abbrev TW (B:Nat) {L:Nat} (N:Yd L) (Q:Exit -> St -> Prop) (k:List KI) (S:St):Prop:=BY Tryz.prog GG Fence.wide (some B) L N Q k S
abbrev TA (l B:Nat) {L:Nat} (N:Yd L) (Q:Exit -> St -> Prop) (fn:Func) (t:Nat) (S:St):Prop:=GB Tryz.prog GG (Fence.wide.inRound l) (some B) L N Q (nW fn t) (SS fn t) S
abbrev Al {X R:Type} (m:Nat -> X -> Option R) (T:Nat -> R -> X -> Prop):Prop:=∀ n x r,m n x=some r -> T n r x
theorem ia {X R:Type} {m:Nat -> X -> Option R} {T:Nat -> R -> X -> Prop} (h0: ∀ x,m 0 x=none) (h: ∀ n,(∀ x r,m n x=some r -> T n r x) -> ∀ x r,m (n+1) x=some r -> T (n+1) r x):Al m T
 | 0,x,_,e=>by rw [h0 x] at e;cases e
 | n+1,x,r,e=>h n (ia h0 h n) x r e
/-A proof in Zg shape of jF was read off:jF holds of each way on,Zg hints gathered so GR. -/
def Gt {R:Type} (T:R -> Prop) (c:List (DV×DH×Bool)) (o:List (Nat×DV)) (z:List (Nat×Fz)) (v:List Prop) (A:Option R):Prop:=HS c o z v -> ∀ r,A=some r -> T r
section
variable {R R':Type} {T:R -> Prop} {c:List (DV×DH×Bool)} {o:List (Nat×DV)} {z:List (Nat×Fz)} {v:List Prop} {A A':Option R} {r0:R} {b b':Bool} {p q:Prop} {f:Nat} {ds:List DV} {h h':DH} {d d':DV} {e:Bool} {xi:Int}
theorem gO {F:Fence} {B:Option Nat} {L:Nat} {Y:Yd L} {Q:R -> QY Tryz.prog GG L} {k:List KI} {S:St} (t:Gt (fun r=>A1 Tryz.prog GG F B L Y (Q r) k S) [] [] [] [] A): ∀ r,A=some r -> A1 Tryz.prog GG F B L Y (Q r) k S:=t H0
theorem rO (t:Gt T [] [] [] [] A):Gt T c o z v A:=fun _=>t H0
theorem nO:Gt T c o z v none:=fun _ _ h=>by cases h
theorem lF (x:HS c o z v -> T r0):Gt T c o z v (some r0):=fun p _ h=>yY h▸x p
theorem bn (x:b=true -> Gt T c o z v A) (y:b=false -> Gt T c o z v A'):Gt T c o z v (bif b then A else A'):=fun p r h=>(GV h).elim (fun h=>x h.1 p r h.2) (fun h=>y h.1 p r h.2)
theorem bj (t:Nat) (x:b=true -> Gt T c (o++[(t,.bool true)]) z (v++[AS (.bool b) (.bool true)]) A) (y:b=false -> Gt T c (o++[(t,.bool false)]) z (v++[AS (.bool b) (.bool false)]) A'):Gt T c o z v (bif b then A else A'):=bn (fun h p=>x h (p.b t h)) (fun h p=>y h (p.b t h))
theorem bi (t:Nat) (x:Gt T c (o++[(t,.bool true)]) z (v++[AS (.bool b) (.bool true)]) A) (y:Gt T c (o++[(t,.bool false)]) z (v++[AS (.bool b) (.bool false)]) A'):Gt T c o z v (bif b then A else A'):=bj t (fun _=>x) (fun _=>y)
theorem gn {_:Decidable p} (x:p -> Gt T c o z v A):Gt T c o z v (if p then A else none):=fun w r h=>x (Dx h).1 w r (Dx h).2
theorem gi {_:Decidable p} (x:Gt T c o z (v++[p]) A):Gt T c o z v (if p then A else none):=gn fun g w=>x (w.g g)
theorem gc {_:Decidable p} {_:Decidable q} (x:Gt T c o z v (if p then (if q then A else none) else none)):Gt T c o z v (if p/\ q then A else none):=fun w r h=>x w r (by obtain ⟨⟨hp,hq⟩,h⟩:=Dx h;rw [yP hp,yP hq];exact h)
theorem gw {_:Decidable (AL xi)} (t:Nat) (x:Gt T c (o++[(t,.int .i64 xi)]) z (v++[AS (.int .i64 (IntKind.i64.wrap xi)) (.int .i64 xi)]) A):Gt T c o z v (if AL xi then A else none):=gn fun g w=>x (w.w t g)
theorem cn {F:Option R'} {A:R' -> Option R} (x: ∀ y,F=some y -> Gt T c o z v (A y)):Gt T c o z v (F.bind A):=fun w r h=>let ⟨y,hy,h⟩:=Ys h;x y hy w r h
theorem cf {F:Option R'} {A:R' -> Option R} {d:R' -> DV} (k: ∀ {y},F=some y -> ES Tryz.prog GG f ds [] (d y) [] true) (h:DH) (x: ∀ y,Gt T (c++[(d y,h,true)]) o z (v++[ES Tryz.prog GG f ds h (d y) h true]) (A y)) (FM:ds.all Gl=true:=by kernel_rfl):Gt T c o z v (F.bind A):=cn fun y hy w=>x y (w.c (fb (k hy) h FM))
theorem ce {F:Option R'} {A:R' -> Option R} {d:R' -> DV} {h':R' -> DH} (k: ∀ {y},F=some y -> ES Tryz.prog GG f ds h (d y) (h' y) e) (σ:List Nat) (H:DH) (x: ∀ y,Gt T (c++[(up σ H.length (d y),Em H σ (h' y),e)]) o z (v++[ES Tryz.prog GG f (ds.map (up σ H.length)) H (up σ H.length (d y)) (Em H σ (h' y)) e]) (A y)) (hb: ∀ y,LO σ H.length h.length (h' y).length=true:=by intro;kernel_rfl) (hh:(σ.map fun k=>H.getD k none)=h.map (EI σ H.length):=by kernel_rfl):Gt T c o z v (F.bind A):=cn fun y hy w=>x y (w.c (em (k hy) σ H (hb y) hh))
theorem jb (t:Nat) (g:b=b') (x:Gt T c (o++[(t,.bool b')]) z (v++[AS (.bool b) (.bool b')]) A):Gt T c o z v A:=fun w=>x (w.b t g)
theorem jw (t:Nat) (g:AL xi) (x:Gt T c (o++[(t,.int .i64 xi)]) z (v++[AS (.int .i64 (IntKind.i64.wrap xi)) (.int .i64 xi)]) A):Gt T c o z v A:=fun w=>x (w.w t g)
theorem jg (g:p) (x:Gt T c o z (v++[p]) A):Gt T c o z v A:=fun w=>x (w.g g)
theorem jt (x:Gt T c o z (v++[True]) A):Gt T c o z v A:=fun w=>x w.t
theorem jo (t:Nat) (g:AS d d') (x:Gt T c (o++[(t,d')]) z (v++[AS d d']) A):Gt T c o z v A:=fun w=>x (w.o t g)
theorem jc (g:ES Tryz.prog GG f ds h d h' e) (x:Gt T (c++[(d,h',e)]) o z (v++[ES Tryz.prog GG f ds h d h' e]) A):Gt T c o z v A:=fun w=>x (w.c g)
theorem jq {k:Nat} (g:ND Tryz.prog GG f ds h d h' k) (x:Gt T (c++[(d,h',false)]) o z (v++[ND Tryz.prog GG f ds h d h' k]) A):Gt T c o z v A:=fun w=>x (w.q g)
theorem ja (t k m:Nat) {n n':Nat} {f f':Nat -> Nat -> DV} (g:n=n'/\ ∀ i j,i<n -> j<m -> AS (f i j) (f' i j)) (x:Gt T c o (z++[(t,.arr k n' f')]) (v++[n=n'/\ ∀ i j,i<n -> j<m -> AS (f i j) (f' i j)]) A):Gt T c o z v A:=fun w=>x (w.a t k m g)
theorem jz (t k:Nat) (x:Gt T c o (z++[(t,.frz k)]) v A):Gt T c o z v A:=fun w=>x (w.z t k)
theorem jk (t:Nat) (x:Gt T c o (z++[(t,.rws)]) v A):Gt T c o z v A:=fun w=>x (w.k t)
end
section
variable {R:Type} {c:List (DV×DH×Bool)} {o:List (Nat×DV)} {z:List (Nat×Fz)} {v:List Prop} {A:Option R} {r0:R} {F:Fence} {B:Option Nat} {L:Nat} {Y N:Bg Tryz.prog GG L} {k k':List KI} {S:St} {fr:List DV} {h':DH}
theorem lG [hX:HC F] (A6:Bh) (σ:List Nat) {Q:R -> QY Tryz.prog GG L} (hk: ∀ {r},A=some r -> A1 Tryz.prog GG F B L Y (Q r) k' ⟨fr,h'⟩) (tg:List (List (Nat×Nat)×St):=[])
 (h:(B2 Tryz.prog GG A6 400 k S ⟨c,o,z,tg⟩).bind (Kq (HK 0 fr) σ L [])=some (.at k',fr,h',v,[],[],[],true):=by kernel_rfl) (hc:H3 k'=true:=by kernel_rfl):Gt (fun r=>A1 Tryz.prog GG F B L Y (Q r) k S) c o z v A:=
 fun p _ e=>gg A6 σ p (hk e) tg h hc
theorem lN [hX:HC F] {m:Nat} (A6:Bh) (σ:List Nat) {Q:R -> QY Tryz.prog GG L} (hk: ∀ {r},A=some r -> A1 Tryz.prog GG F B L Y (Q r) (A4 m k') ⟨fr,h'⟩) (tg:List (List (Nat×Nat)×St):=[])
 (h:(B2 Tryz.prog GG A6 400 k S ⟨c,o,z,tg⟩).bind (Kq (HK 0 fr) σ L [])=some (.at k',fr,h',v,[],[],[],true):=by kernel_rfl) (hc:H3 k'=true:=by kernel_rfl) (hm:MN k'=true:=by kernel_rfl):Gt (fun r=>A1 Tryz.prog GG F B L Y (Q r) k S) c o z v A:=
 lG A6 σ (fun e=>en m (hk e) hm) tg h hc
theorem lE [hX:HC F] {fn:Func} {D:R -> DV} {E:R -> DH} (A6:Bh) (live σ:List Nat) (tg:List (List (Nat×Nat)×St):=[])
 (h:(B2 Tryz.prog GG A6 400 k S ⟨c,o,z,tg⟩).bind (fun r=>(In Tryz.prog live σ L [] fn (D r0) (E r0).length r).map fun q=>(q.1,IY q.2.1,q.2.2))=some (true,D r0,E r0,v,[],[],[],true):=by kernel_rfl):Gt (fun r=>BY Tryz.prog GG F B L N (Fo Tryz.prog fn L (D r) (E r)) k S) c o z v (some r0):=
 lF fun p=>ee A6 live σ p tg h
end
end Go.Proofs.YtgkhhfnhacibcaaGreatDoor
namespace Go.Proofs.YtgkhhfnhacibcaaGreatDoor
abbrev zZ:=@Nat.le_of_succ_le
end Go.Proofs.YtgkhhfnhacibcaaGreatDoor
namespace Go.Proofs.YtgkhhfnhacibcaaGreatDoor
open Go.RowKit
set_option maxRecDepth 100000
set_option maxHeartbeats 40000000
theorem lM:A0 (BG Tryz.f26 6) [] (List.range 9) []:=by unfold A0;kernel_rfl
def PD:Bh:=fun i=>match i with
 | 6=>.ord [] (List.range 9) []
 | _=>.no
inductive SD where
 | l1 (x5:Int)
def PH (n:Nat) (self:SD -> Option Bool) (a b_:List Int) (x5:Int):Option Bool:=
 bif (decide (x5<(a.length:Int))) then
  if (0<=x5/\ x5<(a.length:Int))/\ (0<=x5/\ x5<(b_.length:Int)) then
   bif ((a.getD ((x5).toNat) 0) != (b_.getD ((x5).toNat) 0)) then
    some false
   else
    if AL (x5+1) then
     self (.l1 (x5+1))
    else none
  else none
 else
  some true
def al (n:Nat) (self:SD -> Option Bool) (a b_:List Int):Option Bool:=
 bif ((a.length:Int) != (b_.length:Int)) then
  some false
 else
  self (.l1 0)
def NQ (a b_:List Int):Nat -> SD -> Option Bool
 | 0,_=>none
 | n+1,.l1 x5=>PH n (NQ a b_ n) a b_ x5
def same (n:Nat) (a b_:List Int):Option Bool:=al n (NQ a b_ n) a b_
def kz (n B:Nat) (N:Yd 0) (a b_:List Int) (r:Bool):SD -> Prop
 | .l1 x5=>∀ m0:Nat,n<=m0 -> TW B N (FQ Tryz.f26 0 (.bool r) []) (A4 m0 (BF (Ab Tryz.f26) 0 [])) ⟨AM 26 [(0,.ints a),(1,.ints b_),(5,.i x5)],[]⟩
theorem k6 (B:Nat) (N:Yd 0) (a b_:List Int):Al (NQ a b_) (kz · B N a b_):=ia (fun _=>rfl) fun n AH pt r h=>by
 cases pt
 case l1 x5=>
  intro m0 AC;refine rd AC fun m0 AC=>?_
  revert r;apply gO;exact bi 14 (jg lM (gc (gi (gi (bi 25 (lE PD [4] []) (gw 16 (lG PD [] (AH _ _ · m0 AC)))))))) (lE PD [4] [])
theorem Vc {n:Nat} {a b_:List Int} {r:Bool} (h:same n a b_=some r):EQ 26 [.ints a,.ints b_] [] (.bool r) [] true:=by
 refine ot Tryz.func26 fun B N=>?_
 revert r;apply gO;exact bi 10 (lE PD [4] []) (lN PD [] ((k6 B N a b_ n) _ _ · n Nat.le.refl))
inductive Tc where
 | l1 (x8:Int)
def XA (n:Nat) (self:Tc -> Option Int) (s_:List Int) (v:Int) (x8:Int):Option Int:=
 bif (decide (x8<(s_.length:Int))) then
  if 0<=x8/\ x8<(s_.length:Int) then
   bif (v==(s_.getD ((x8).toNat) 0)) then
    some x8
   else
    if AL (x8+1) then
     self (.l1 (x8+1))
    else none
  else none
 else
  some (-1)
def du (n:Nat) (self:Tc -> Option Int) (s_:List Int) (v:Int):Option Int:=
 self (.l1 0)
def MR (s_:List Int) (v:Int):Nat -> Tc -> Option Int
 | 0,_=>none
 | n+1,.l1 x8=>XA n (MR s_ v n) s_ v x8
def Td (n:Nat) (s_:List Int) (v:Int):Option Int:=du n (MR s_ v n) s_ v
def rH (n B:Nat) (N:Yd 0) (s_:List Int) (v:Int) (r:Int):Tc -> Prop
 | .l1 x8=>∀ m0:Nat,n<=m0 -> TW B N (FQ Tryz.f130 0 (.i r) []) (A4 m0 (BF (Ab Tryz.f130) 0 [])) ⟨AM 19 [(0,.ints s_),(1,.i v),(7,.i (s_.length:Int)),(8,.i x8)],[]⟩
theorem rI (B:Nat) (N:Yd 0) (s_:List Int) (v:Int):Al (MR s_ v) (rH · B N s_ v):=ia (fun _=>rfl) fun n AH pt r h=>by
 cases pt
 case l1 x8=>
  intro m0 AC;refine rd AC fun m0 AC=>?_
  revert r;apply gO;exact bi 9 (gi (bi 16 (lE AF [4] []) (gw 18 (lG AF [] (AH _ _ · m0 AC))))) (lE AF [4] [])
theorem rG {n:Nat} {s_:List Int} {v:Int} {r:Int} (h:Td n s_ v=some r):EQ 130 [.ints s_,.i v] [] (.i r) [] true:=by
 refine ot Tryz.func130 fun B N=>?_
 revert r;apply gO;exact lN AF [] ((rI B N s_ v n) _ _ · n Nat.le.refl)
inductive Te where
 | l1 (x8:Int)
def QK (n:Nat) (self:Te -> Option Int) (s_:List Bool) (v:Bool) (x8:Int):Option Int:=
 bif (decide (x8<(s_.length:Int))) then
  if 0<=x8/\ x8<(s_.length:Int) then
   bif (v==(s_.getD ((x8).toNat) false)) then
    some x8
   else
    if AL (x8+1) then
     self (.l1 (x8+1))
    else none
  else none
 else
  some (-1)
def rK (n:Nat) (self:Te -> Option Int) (s_:List Bool) (v:Bool):Option Int:=
 self (.l1 0)
def Jr (s_:List Bool) (v:Bool):Nat -> Te -> Option Int
 | 0,_=>none
 | n+1,.l1 x8=>QK n (Jr s_ v n) s_ v x8
def Tf (n:Nat) (s_:List Bool) (v:Bool):Option Int:=rK n (Jr s_ v n) s_ v
def rL (n B:Nat) (N:Yd 0) (s_:List Bool) (v:Bool) (r:Int):Te -> Prop
 | .l1 x8=>∀ m0:Nat,n<=m0 -> TW B N (FQ Tryz.f121 0 (.i r) []) (A4 m0 (BF (Ab Tryz.f121) 0 [])) ⟨AM 19 [(0,.bools s_),(1,.bool v),(7,.i (s_.length:Int)),(8,.i x8)],[]⟩
theorem rM (B:Nat) (N:Yd 0) (s_:List Bool) (v:Bool):Al (Jr s_ v) (rL · B N s_ v):=ia (fun _=>rfl) fun n AH pt r h=>by
 cases pt
 case l1 x8=>
  intro m0 AC;refine rd AC fun m0 AC=>?_
  revert r;apply gO;exact bi 9 (gi (bi 16 (lE AF [4] []) (gw 18 (lG AF [] (AH _ _ · m0 AC))))) (lE AF [4] [])
theorem rJ {n:Nat} {s_:List Bool} {v:Bool} {r:Int} (h:Tf n s_ v=some r):EQ 121 [.bools s_,.bool v] [] (.i r) [] true:=by
 refine ot Tryz.func121 fun B N=>?_
 revert r;apply gO;exact lN AF [] ((rM B N s_ v n) _ _ · n Nat.le.refl)
def Yg (n:Nat) (s_:List Int) (v:Int):Option Bool:=
 (Td n s_ v).bind fun y1=>
  some (decide (y1>=0))
def LQ (n:Nat) (s_:List Int) (v:Int):Option Bool:=Yg n s_ v
theorem gQ {n:Nat} {s_:List Int} {v:Int} {r:Bool} (h:LQ n s_ v=some r):EQ 119 [.ints s_,.i v] [] (.bool r) [] true:=by
 unfold LQ Yg at h;refine ot Tryz.func119 fun B N=>?_
 revert r;apply gO;exact cf rG [] fun _=>lE AF [4] []
theorem mJ:A0 (BG Tryz.f40 6) [] (List.range 9) []:=by unfold A0;kernel_rfl
def PF:Bh:=fun i=>match i with
 | 6=>.ord [] (List.range 9) []
 | _=>.no
inductive UR where
 | l1 (x13:Int)
def Qq (n:Nat) (self:UR -> Option Bool) (D5 Ea:List Int) (x13:Int):Option Bool:=
 bif (decide (x13<(D5.length:Int))) then
  if (0<=x13/\ x13<(D5.length:Int))/\ (0<=x13/\ x13<(Ea.length:Int)) then
   bif ((D5.getD ((x13).toNat) 0) != (Ea.getD ((x13).toNat) 0)) then
    some false
   else
    if AL (x13+1) then
     self (.l1 (x13+1))
    else none
  else none
 else
  some true
def f8 (n:Nat) (self:UR -> Option Bool) (D5 Ea:List Int):Option Bool:=
 bif ((D5.length:Int) != (Ea.length:Int)) then
  some false
 else
  self (.l1 0)
def OW (D5 Ea:List Int):Nat -> UR -> Option Bool
 | 0,_=>none
 | n+1,.l1 x13=>Qq n (OW D5 Ea n) D5 Ea x13
def Qr (n:Nat) (D5 Ea:List Int):Option Bool:=f8 n (OW D5 Ea n) D5 Ea
def vw (n B:Nat) (N:Yd 0) (D5 Ea:List Int) (r:Bool):UR -> Prop
 | .l1 x13=>∀ m0:Nat,n<=m0 -> TW B N (FQ Tryz.f40 0 (.bool r) []) (A4 m0 (BF (Ab Tryz.f40) 0 [])) ⟨AM 26 [(0,.ints D5),(1,.ints Ea),(12,.i (D5.length:Int)),(13,.i x13)],[]⟩
theorem vz (B:Nat) (N:Yd 0) (D5 Ea:List Int):Al (OW D5 Ea) (vw · B N D5 Ea):=ia (fun _=>rfl) fun n AH pt r h=>by
 cases pt
 case l1 x13=>
  intro m0 AC;refine rd AC fun m0 AC=>?_
  revert r;apply gO;exact bi 14 (jg mJ (gc (gi (gi (bi 24 (lE PF [4] []) (gw 25 (lG PF [] (AH _ _ · m0 AC)))))))) (lE PF [4] [])
theorem vu {n:Nat} {D5 Ea:List Int} {r:Bool} (h:Qr n D5 Ea=some r):EQ 40 [.ints D5,.ints Ea] [] (.bool r) [] true:=by
 refine ot Tryz.func40 fun B N=>?_
 revert r;apply gO;exact bi 10 (lE PF [4] []) (lN PF [] ((vz B N D5 Ea n) _ _ · n Nat.le.refl))
inductive OP where
 | l1 (A3:Int)
 | l2 (x3:Int) (x4:List Int) (A3:Int) (BD:List Int) (JM Cm:Int)
def YO (n:Nat) (self:OP -> Option Int) (g_:List (List Int)) (A3:Int):Option Int:=
 bif (decide (A3<(g_.length:Int))) then
  if 0<=A3/\ A3<(g_.length:Int) then
   self (.l2 A3 (g_.getD ((A3).toNat) []) A3 (g_.getD ((A3).toNat) []) (((g_.getD ((A3).toNat) []).length:Nat):Int) 0)
  else none
 else
  some 0
def UB (n:Nat) (self:OP -> Option Int) (g_:List (List Int)) (x3:Int) (x4:List Int) (A3:Int) (BD:List Int) (JM Cm:Int):Option Int:=
 bif (decide (Cm<JM)) then
  if 0<=Cm/\ Cm<(BD.length:Int) then
   bif (decide ((BD.getD ((Cm).toNat) 0)<0)) then
    some 120
   else
    bif (decide ((BD.getD ((Cm).toNat) 0)>=(g_.length:Int))) then
     some 120
    else
     bif ((BD.getD ((Cm).toNat) 0)==x3) then
      some 120
     else
      bif (decide (Cm>0)) then
       if AL (Cm-1)/\ (0<=(Cm-1)/\ (Cm-1)<(x4.length:Int)) then
        bif (decide ((x4.getD (((Cm-1)).toNat) 0)>=(BD.getD ((Cm).toNat) 0))) then
         some 120
        else
         if 0<=(BD.getD ((Cm).toNat) 0)/\ (BD.getD ((Cm).toNat) 0)<(g_.length:Int) then
          (LQ n (g_.getD ((BD.getD ((Cm).toNat) 0).toNat) []) x3).bind fun y1=>
           bif (!y1) then
            some 120
           else
            if AL (Cm+1) then
             self (.l2 x3 x4 A3 BD JM (Cm+1))
            else none
         else none
       else none
      else
       if 0<=(BD.getD ((Cm).toNat) 0)/\ (BD.getD ((Cm).toNat) 0)<(g_.length:Int) then
        (LQ n (g_.getD ((BD.getD ((Cm).toNat) 0).toNat) []) x3).bind fun y1=>
         bif (!y1) then
          some 120
         else
          if AL (Cm+1) then
           self (.l2 x3 x4 A3 BD JM (Cm+1))
          else none
       else none
  else none
 else
  if AL (A3+1) then
   self (.l1 (A3+1))
  else none
def fc (n:Nat) (self:OP -> Option Int) (g_:List (List Int)):Option Int:=
 bif (decide ((g_.length:Int)>256)) then
  some 120
 else
  self (.l1 0)
def IF (g_:List (List Int)):Nat -> OP -> Option Int
 | 0,_=>none
 | n+1,.l1 A3=>YO n (IF g_ n) g_ A3
 | n+1,.l2 x3 x4 A3 BD JM Cm=>UB n (IF g_ n) g_ x3 x4 A3 BD JM Cm
def Qi (n:Nat) (g_:List (List Int)):Option Int:=fc n (IF g_ n) g_
def vL (n B:Nat) (N:Yd 0) (g_:List (List Int)) (r:Int):OP -> Prop
 | .l1 A3=>∀ m0:Nat,n<=m0 -> TW B N (FQ Tryz.f96 0 (.i r) []) (A4 m0 (BF (Ab Tryz.f96) 0 [])) ⟨AM 61 [(0,.sl 1 g_.length (Aq At g_)),(10,.sl 1 g_.length (Aq At g_)),(11,.i (g_.length:Int)),(12,.i A3)],[]⟩
 | .l2 x3 x4 A3 BD JM Cm=>∀ m0 m1:Nat,n<=m0 -> n<=m1 -> TW B N (FQ Tryz.f96 0 (.i r) []) (A4 m1 (BF (Ab Tryz.f96) 2 [m0])) ⟨AM 61 [(0,.sl 1 g_.length (Aq At g_)),(3,.i x3),(4,.ints x4),(10,.sl 1 g_.length (Aq At g_)),(11,.i (g_.length:Int)),(12,.i A3),(17,.ints BD),(18,.i JM),(19,.i Cm)],[]⟩
theorem vM (B:Nat) (N:Yd 0) (g_:List (List Int)):Al (IF g_) (vL · B N g_):=ia (fun _=>rfl) fun n AH pt r h=>by
 cases pt
 case l1 A3=>
  intro m0 AC;refine rd AC fun m0 AC=>?_
  revert r;apply gO;exact bi 13 (gi (lN AF [] (AH _ _ · m0 n AC Nat.le.refl))) (lE AF [2] [])
 case l2 x3 x4 A3 BD JM Cm=>
  intro m0 m1 AC A7;have AC:=zZ AC;refine rd A7 fun m1 A7=>?_
  revert r;apply gO;exact bi 20 (gi (bi 25 (lE AF [2] []) (bi 30 (lE AF [2] []) (bi 35 (lE AF [2] []) (bi 39 (gc (gw 43 (gi (bi 47 (lE AF [2] []) (gi (cf gQ [] fun _=>bi 57 (lE AF [2] []) (gw 59 (lG AF [] (AH _ _ · m0 m1 AC A7))))))))) (gi (cf gQ [] fun _=>bi 57 (lE AF [2] []) (gw 59 (lG AF [] (AH _ _ · m0 m1 AC A7)))))))))) (gw 60 (lG AF [] (AH _ _ · m0 AC)))
theorem fa {n:Nat} {g_:List (List Int)} {r:Int} (h:Qi n g_=some r):EQ 96 [.sl 1 g_.length (Aq At g_)] [] (.i r) [] true:=by
 refine ot Tryz.func96 fun B N=>?_
 revert r;apply gO;exact bi 9 (lE AF [2] []) (lN AF [] ((vM B N g_ n) _ _ · n Nat.le.refl))
inductive UP where
 | l1 (x3:Int)
def UO (n:Nat) (self:UP -> Option Bool) (q:AA) (x3:Int):Option Bool:=
 bif (decide (x3<(q.cons.length:Int))) then
  if 0<=x3/\ x3<(q.cons.length:Int) then
   bif (decide (((((q.cons.getD ((x3).toNat) default).cells).length:Nat):Int)>20)) then
    some false
   else
    bif (decide (((((q.cons.getD ((x3).toNat) default).runs).length:Nat):Int)>10)) then
     some false
    else
     if AL (x3+1) then
      self (.l1 (x3+1))
     else none
  else none
 else
  some true
def fv (n:Nat) (self:UP -> Option Bool) (q:AA):Option Bool:=
 bif (decide (q.cells>16)) then
  some false
 else
  bif (decide (q.symbols>6)) then
   some false
  else
   bif (decide ((q.values.length:Int)>8)) then
    some false
   else
    bif (decide ((q.nbrs.length:Int)>20)) then
     some false
    else
     bif (decide ((q.cons.length:Int)>120)) then
      some false
     else
      self (.l1 0)
def J7 (q:AA):Nat -> UP -> Option Bool
 | 0,_=>none
 | n+1,.l1 x3=>UO n (J7 q n) q x3
def UQ (n:Nat) (q:AA):Option Bool:=fv n (J7 q n) q
def vp (n B:Nat) (N:Yd 0) (q:AA) (r:Bool):UP -> Prop
 | .l1 x3=>∀ m0:Nat,n<=m0 -> TW B N (FQ Tryz.f56 0 (.bool r) []) (A4 m0 (BF (Ab Tryz.f56) 0 [])) ⟨AM 55 [(1,.ref 0 0),(3,.i x3)],[some (.cells (AE q))]⟩
theorem vq (B:Nat) (N:Yd 0) (q:AA):Al (J7 q) (vp · B N q):=ia (fun _=>rfl) fun n AH pt r h=>by
 cases pt
 case l1 x3=>
  intro m0 AC;refine rd AC fun m0 AC=>?_
  revert r;apply gO;exact bi 34 (gn fun g0=>jg g0 (bi 44 (lE AF [2] []) (jg g0 (bi 53 (lE AF [2] []) (gw 36 (lG AF [0] (AH _ _ · m0 AC))))))) (lE AF [2] [])
theorem vo {n:Nat} {q:AA} {r:Bool} (h:UQ n q=some r):EQ 56 [.agg 5 (L1 (AE q))] [] (.bool r) [] true:=by
 refine ot Tryz.func56 fun B N=>?_
 revert r;apply gO;exact bi 6 (lE AF [2] []) (bi 10 (lE AF [2] []) (bi 16 (lE AF [2] []) (bi 22 (lE AF [2] []) (bi 28 (lE AF [2] []) (lN AF [0] ((vq B N q n) _ _ · n Nat.le.refl))))))
end Go.Proofs.YtgkhhfnhacibcaaGreatDoor
namespace Go.Proofs.YtgkhhfnhacibcaaGreatDoor
open Go.RowKit
set_option maxRecDepth 100000
set_option maxHeartbeats 40000000
def ZW (n:Nat) (v lo hi:Int):Option Bool:=
 bif (decide (v<lo)) then
  some true
 else
  some (decide (v>hi))
def VA (n:Nat) (v lo hi:Int):Option Bool:=ZW n v lo hi
theorem jE {n:Nat} {v lo hi:Int} {r:Bool} (h:VA n v lo hi=some r):EQ 118 [.i v,.fp 1 (L1 [.i lo]),.fp 1 (L1 [.i hi])] [] (.bool r) [] true:=by
 refine ot Tryz.func118 fun B N=>?_
 revert r;apply gO;exact bi 7 (lE AF [4] []) (lE AF [4] [])
inductive Ta where
 | l1 (x8:Int)
def W9 (n:Nat) (self:Ta -> Option Int) (l:List Int) (lo hi:Int) (x8:Int):Option Int:=
 bif (decide (x8<(l.length:Int))) then
  if 0<=x8/\ x8<(l.length:Int) then
   (VA n (l.getD ((x8).toNat) 0) lo hi).bind fun y1=>
    bif y1 then
     some x8
    else
     if AL (x8+1) then
      self (.l1 (x8+1))
     else none
  else none
 else
  some (-1)
def dt (n:Nat) (self:Ta -> Option Int) (l:List Int) (lo hi:Int):Option Int:=
 self (.l1 0)
def MQ (l:List Int) (lo hi:Int):Nat -> Ta -> Option Int
 | 0,_=>none
 | n+1,.l1 x8=>W9 n (MQ l lo hi n) l lo hi x8
def Tb (n:Nat) (l:List Int) (lo hi:Int):Option Int:=dt n (MQ l lo hi n) l lo hi
def rD (n B:Nat) (N:Yd 0) (l:List Int) (lo hi:Int) (r:Int):Ta -> Prop
 | .l1 x8=>∀ m0:Nat,n<=m0 -> TW B N (FQ Tryz.f41 0 (.i r) []) (A4 m0 (BF (Ab Tryz.f41) 0 [])) ⟨AM 19 [(0,.ints l),(1,.fn 118 2 (L1 [.fp 1 (L1 [.i lo]),.fp 1 (L1 [.i hi])])),(7,.i (l.length:Int)),(8,.i x8)],[]⟩
theorem rF (B:Nat) (N:Yd 0) (l:List Int) (lo hi:Int):Al (MQ l lo hi) (rD · B N l lo hi):=ia (fun _=>rfl) fun n AH pt r h=>by
 cases pt
 case l1 x8=>
  intro m0 AC;refine rd AC fun m0 AC=>?_
  revert r;apply gO;exact bi 9 (gi (cf jE [] fun _=>bi 16 (lE AF [4] []) (gw 18 (lG AF [] (AH _ _ · m0 AC))))) (lE AF [4] [])
theorem rB {n:Nat} {l:List Int} {lo hi:Int} {r:Int} (h:Tb n l lo hi=some r):EQ 41 [.ints l,.fn 118 2 (L1 [.fp 1 (L1 [.i lo]),.fp 1 (L1 [.i hi])])] [] (.i r) [] true:=by
 refine ot Tryz.func41 fun B N=>?_
 revert r;apply gO;exact lN AF [] ((rF B N l lo hi n) _ _ · n Nat.le.refl)
def Yf (n:Nat) (l:List Int) (lo hi:Int):Option Bool:=
 (Tb n l lo hi).bind fun y1=>
  some (decide (y1>=0))
def Ue (n:Nat) (l:List Int) (lo hi:Int):Option Bool:=Yf n l lo hi
theorem wm {n:Nat} {l:List Int} {lo hi:Int} {r:Bool} (h:Ue n l lo hi=some r):EQ 48 [.ints l,.fn 118 2 (L1 [.fp 1 (L1 [.i lo]),.fp 1 (L1 [.i hi])])] [] (.bool r) [] true:=by
 unfold Ue Yf at h;refine ot Tryz.func48 fun B N=>?_
 revert r;apply gO;exact cf rB [] fun _=>lE AF [4] []
def V4 (n:Nat) (l_:List Int) (lo hi:Int):Option Bool:=
 (Ue n l_ lo hi).bind fun y1=>
  some (!y1)
def Km (n:Nat) (l_:List Int) (lo hi:Int):Option Bool:=V4 n l_ lo hi
theorem Sa {n:Nat} {l_:List Int} {lo hi:Int} {r:Bool} (h:Km n l_ lo hi=some r):EQ 95 [.ints l_,.i lo,.i hi] [] (.bool r) [] true:=by
 unfold Km V4 at h;refine ot Tryz.func95 fun B N=>?_
 revert r;apply gO;exact cn fun y1 BB=>jc (sb [.ints l_,.fn 118 2 (L1 [.ref 0 0,.ref 1 0])] (wm BB) [some (.cells [.i lo]),some (.cells [.i hi])] ⟨Aa.plain (by kernel_rfl),(Aa.fnL (l:=[.ref 0 0,.ref 1 0]) (l0:=[.fp 1 (L1 [.i lo]),.fp 1 (L1 [.i hi])]) ⟨(Aa.refL (l:=[.i lo]) (l0:=[.i lo]) rfl ⟨Aa.plain (by kernel_rfl),trivial⟩),(Aa.refL (l:=[.i hi]) (l0:=[.i hi]) rfl ⟨Aa.plain (by kernel_rfl),trivial⟩),trivial⟩),trivial⟩) (lE AF [6] [])
theorem mI:A0 (BG Tryz.f98 24) [([0,1,2,3,5,6,7,8],4),([],9),([10,11,12,13,14],15),([],16),([17,18,19,20,21,22,23,24,25,26],27)] [28,29] []:=by unfold A0;kernel_rfl
def DE:Bh:=fun i=>match i with
 | 24=>.ord [([0,1,2,3,5,6,7,8],4),([],9),([10,11,12,13,14],15),([],16),([17,18,19,20,21,22,23,24,25,26],27)] [28,29] []
 | _=>.no
def eP (q:AA) (c_:AB):DH:=[some (.cells (AE q)),some (.cells (AG c_)),some (.ints ([c_.set,c_.other]:List Int)),some (.ints ([c_.lo,c_.hi]:List Int))]
inductive LI where
 | l1 (An:Int) (o2:List Bool)
 | l2
def Qo (n:Nat) (self:LI -> Option Bool) (q:AA) (c_:AB) (An:Int) (o2:List Bool):Option Bool:=
 bif (decide (An<(c_.cells.length:Int))) then
  if 0<=An/\ An<(c_.cells.length:Int) then
   bif (decide ((c_.cells.getD ((An).toNat) 0)<0)) then
    some false
   else
    bif (decide ((c_.cells.getD ((An).toNat) 0)>=q.cells)) then
     some false
    else
     if (0<=(c_.cells.getD ((An).toNat) 0)/\ (c_.cells.getD ((An).toNat) 0)<((256:Nat):Int))/\ 0+((c_.cells.getD ((An).toNat) 0).toNat)<o2.length then
      bif (o2.getD (0+((c_.cells.getD ((An).toNat) 0).toNat)) false) then
       some false
      else
       bif (decide (c_.kind>=8)) then
        bif ((c_.cells.getD ((An).toNat) 0) != An) then
         some false
        else
         if AL (An+1) then
          self (.l1 (An+1) (o2.set (0+((c_.cells.getD ((An).toNat) 0).toNat)) true))
         else none
       else
        if AL (An+1) then
         self (.l1 (An+1) (o2.set (0+((c_.cells.getD ((An).toNat) 0).toNat)) true))
        else none
     else none
  else none
 else
  bif (c_.kind==1) then
   self (.l2)
  else
   bif (c_.kind==2) then
    self (.l2)
   else
    bif (c_.kind==3) then
     self (.l2)
    else
     bif (c_.kind==4) then
      self (.l2)
     else
      bif (c_.kind==5) then
       self (.l2)
      else
       bif (c_.kind==6) then
        bif ((c_.cells.length:Int) != 2) then
         some false
        else
         self (.l2)
       else
        bif (c_.kind==7) then
         bif ((c_.cells.length:Int) != 2) then
          some false
         else
          self (.l2)
        else
         bif (c_.kind==8) then
          bif ((c_.cells.length:Int) != q.cells) then
           some false
          else
           self (.l2)
         else
          bif (c_.kind==9) then
           bif ((c_.cells.length:Int) != q.cells) then
            some false
           else
            self (.l2)
          else
           some false
def UJ (n:Nat) (self:LI -> Option Bool) (q:AA) (c_:AB):Option Bool:=
 if (0<=q.symbols/\ q.symbols<=(IntKind.i64.bits:Int))/\ AL ((IntKind.i64.wrap (1*2 ^ (q.symbols).toNat))-1) then
  (Km n ([c_.set,c_.other]:List Int) 0 ((IntKind.i64.wrap (1*2 ^ (q.symbols).toNat))-1)).bind fun y1=>
   bif y1 then
    (Km n ([c_.lo,c_.hi]:List Int) 0 65536).bind fun y2=>
     bif y2 then
      bif (decide ((c_.runs.length:Int)<=8)) then
       (Km n c_.runs 1 256).bind fun y3=>
        some y3
      else
       some false
     else
      some false
   else
    some false
 else none
def fm (n:Nat) (self:LI -> Option Bool) (q:AA) (c_:AB):Option Bool:=
 self (.l1 0 (List.replicate 256 false))
def OT (q:AA) (c_:AB):Nat -> LI -> Option Bool
 | 0,_=>none
 | n+1,.l1 An o2=>Qo n (OT q c_ n) q c_ An o2
 | n+1,.l2=>UJ n (OT q c_ n) q c_
def UK (n:Nat) (q:AA) (c_:AB):Option Bool:=fm n (OT q c_ n) q c_
def vf (n B:Nat) (N:Yd 0) (q:AA) (c_:AB) (r:Bool):LI -> Prop
 | .l1 An o2=>∀ m0:Nat,n<=m0 -> TW B N (FQ Tryz.f98 0 (.bool r) []) (A4 m0 (BF (Ab Tryz.f98) 0 [])) ⟨AM 95 [(2,.ref 0 0),(3,.ref 1 0),(5,.mp 2 1 0 0),(9,.ints c_.cells),(10,.i (c_.cells.length:Int)),(11,.i An)],[some (.cells (AE q)),some (.cells (AG c_)),some (.bools o2)]⟩
 | .l2=>TW B N (FQ Tryz.f98 0 (.bool r) []) (CW (Ab Tryz.f98) 24 []) ⟨AM 95 [(2,.ref 0 0),(3,.ref 1 0)],[some (.cells (AE q)),some (.cells (AG c_))]⟩
theorem vg (B:Nat) (N:Yd 0) (q:AA) (c_:AB):Al (OT q c_) (vf · B N q c_):=ia (fun _=>rfl) fun n AH pt r h=>by
 cases pt
 case l1 An o2=>
  intro m0 AC;refine rd AC fun m0 AC=>?_
  revert r;apply gO;exact bi 12 (gi (bi 17 (lE (AI 24 DE) [4] []) (bi 22 (lE (AI 24 DE) [4] []) (gc (gn fun g1=>jg g1 (gn fun g2=>jg g2 (bi 27 (lE (AI 24 DE) [4] []) (bi 32 (bi 36 (lE (AI 24 DE) [4] []) (jg g1 (jg g2 (gw 41 (lG (AI 24 DE) [0,1,2] (AH _ _ · m0 AC)))))) (jg g1 (jg g2 (gw 41 (lG (AI 24 DE) [0,1,2] (AH _ _ · m0 AC))))))))))))) (bi 45 (lG (AI 24 DE) [0,1] (AH _ _ ·)) (bi 46 (lG (AI 24 DE) [0,1] (AH _ _ ·)) (bi 47 (lG (AI 24 DE) [0,1] (AH _ _ ·)) (bi 48 (lG (AI 24 DE) [0,1] (AH _ _ ·)) (bi 49 (lG (AI 24 DE) [0,1] (AH _ _ ·)) (bi 51 (bi 56 (lE (AI 24 DE) [4] []) (lG (AI 24 DE) [0,1] (AH _ _ ·))) (bi 52 (bi 56 (lE (AI 24 DE) [4] []) (lG (AI 24 DE) [0,1] (AH _ _ ·))) (bi 58 (bi 65 (lE (AI 24 DE) [4] []) (lG (AI 24 DE) [0,1] (AH _ _ ·))) (bi 59 (bi 65 (lE (AI 24 DE) [4] []) (lG (AI 24 DE) [0,1] (AH _ _ ·))) (lE (AI 24 DE) [4] []))))))))))
 case l2=>
  revert r;apply gO;exact jg mI (gc (gi (gw 74 (cn fun y1 BB=>jc (sb [.msl 2 1 0 2,.i 0,.i ((IntKind.i64.wrap (1*2 ^ (q.symbols).toNat))-1)] (Sa BB) [some (.cells (AE q)),some (.cells (AG c_)),some (.ints ([c_.set,c_.other]:List Int))] ⟨Aa.ints rfl (Eq.refl 2),Aa.plain (by kernel_rfl),Aa.plain (by kernel_rfl),trivial⟩) (bi 75 (cn fun y2 Bq=>jc (sb [.msl 3 1 0 2,.i 0,.i 65536] (Sa Bq) (eP q c_) ⟨Aa.ints rfl (Eq.refl 2),Aa.plain (by kernel_rfl),Aa.plain (by kernel_rfl),trivial⟩) (bi 82 (bi 88 (cf Sa (eP q c_) fun _=>lE DE [4] []) (lE DE [4] [])) (lE DE [4] []))) (lE DE [4] []))))))
theorem vd {n:Nat} {q:AA} {c_:AB} {r:Bool} (h:UK n q c_=some r):EQ 98 [.agg 5 (L1 (AE q)),.agg 9 (L1 (AG c_))] [] (.bool r) [] true:=by
 refine ot Tryz.func98 fun B N=>?_
 revert r;apply gO;exact lN (AI 24 DE) [0,1,2] ((vg B N q c_ n) _ _ · n Nat.le.refl)
def VH (n:Nat) (c:AB) (q:AA):Option Bool:=
 (UK n q c).bind fun y1=>
  some (!y1)
def Ri (n:Nat) (c:AB) (q:AA):Option Bool:=VH n c q
theorem jJ {n:Nat} {c:AB} {q:AA} {r:Bool} (h:Ri n c q=some r):EQ 97 [.agg 9 (L1 (AG c)),.fp 5 (L1 (AE q))] [] (.bool r) [] true:=by
 unfold Ri VH at h;refine ot Tryz.func97 fun B N=>?_
 revert r;apply gO;exact cf vd [some (.cells (AG c))] fun _=>lE AF [3] []
inductive TX where
 | l1 (x8:Int)
def TV (n:Nat) (self:TX -> Option Int) (l:List AB) (q:AA) (x8:Int):Option Int:=
 bif (decide (x8<(l.length:Int))) then
  if 0<=x8/\ x8<(l.length:Int) then
   (Ri n (l.getD ((x8).toNat) default) q).bind fun y1=>
    bif y1 then
     some x8
    else
     if AL (x8+1) then
      self (.l1 (x8+1))
     else none
  else none
 else
  some (-1)
def dp (n:Nat) (self:TX -> Option Int) (l:List AB) (q:AA):Option Int:=
 self (.l1 0)
def Kz (l:List AB) (q:AA):Nat -> TX -> Option Int
 | 0,_=>none
 | n+1,.l1 x8=>TV n (Kz l q n) l q x8
def TY (n:Nat) (l:List AB) (q:AA):Option Int:=dp n (Kz l q n) l q
def qy (n B:Nat) (N:Yd 0) (l:List AB) (q:AA) (r:Int):TX -> Prop
 | .l1 x8=>∀ m0:Nat,n<=m0 -> TW B N (FQ Tryz.f92 0 (.i r) []) (A4 m0 (BF (Ab Tryz.f92) 0 [])) ⟨AM 19 [(0,.sl 9 l.length (Aq AG l)),(1,.fn 97 1 (L1 [.fp 5 (L1 (AE q))])),(7,.i (l.length:Int)),(8,.i x8)],[]⟩
theorem qz (B:Nat) (N:Yd 0) (l:List AB) (q:AA):Al (Kz l q) (qy · B N l q):=ia (fun _=>rfl) fun n AH pt r h=>by
 cases pt
 case l1 x8=>
  intro m0 AC;refine rd AC fun m0 AC=>?_
  revert r;apply gO;exact bi 9 (gi (cf jJ [] fun _=>bi 16 (lE AF [4] []) (gw 18 (lG AF [] (AH _ _ · m0 AC))))) (lE AF [4] [])
theorem qx {n:Nat} {l:List AB} {q:AA} {r:Int} (h:TY n l q=some r):EQ 92 [.sl 9 l.length (Aq AG l),.fn 97 1 (L1 [.fp 5 (L1 (AE q))])] [] (.i r) [] true:=by
 refine ot Tryz.func92 fun B N=>?_
 revert r;apply gO;exact lN AF [] ((qz B N l q n) _ _ · n Nat.le.refl)
def Yc (n:Nat) (l:List AB) (q:AA):Option Bool:=
 (TY n l q).bind fun y1=>
  some (decide (y1>=0))
def Ud (n:Nat) (l:List AB) (q:AA):Option Bool:=Yc n l q
theorem wj {n:Nat} {l:List AB} {q:AA} {r:Bool} (h:Ud n l q=some r):EQ 61 [.sl 9 l.length (Aq AG l),.fn 97 1 (L1 [.fp 5 (L1 (AE q))])] [] (.bool r) [] true:=by
 unfold Ud Yc at h;refine ot Tryz.func61 fun B N=>?_
 revert r;apply gO;exact cf qx [] fun _=>lE AF [4] []
def ZY (n:Nat) (q:AA):Option Int:=
 bif (decide (q.cells<1)) then
  some 191
 else
  bif (decide (q.cells>256)) then
   some 191
  else
   bif (decide (q.symbols<1)) then
    some 191
   else
    bif (decide (q.symbols>16)) then
     some 191
    else
     bif ((q.values.length:Int) != q.symbols) then
      some 191
     else
      (Km n q.values 0 99).bind fun y1=>
       bif (!y1) then
        some 191
       else
        bif ((q.nbrs.length:Int) != q.cells) then
         some 191
        else
         (Qi n q.nbrs).bind fun y2=>
          bif (y2 != 0) then
           some 191
          else
           bif (decide ((q.cons.length:Int)>4096)) then
            some 191
           else
            (Ud n q.cons q).bind fun y3=>
             bif y3 then
              some 191
             else
              some 0
def valid (n:Nat) (q:AA):Option Int:=ZY n q
theorem VD {n:Nat} {q:AA} {r:Int} (h:valid n q=some r):EQ 67 [.agg 5 (L1 (AE q))] [] (.i r) [] true:=by
 refine ot Tryz.func67 fun B N=>?_
 revert r;apply gO;exact bi 5 (lE AF [2] []) (bi 9 (lE AF [2] []) (bi 14 (lE AF [2] []) (bi 19 (lE AF [2] []) (bi 27 (lE AF [2] []) (cf Sa [some (.cells (AE q))] fun _=>bi 33 (lE AF [2] []) (bi 40 (lE AF [2] []) (cf fa [some (.cells (AE q))] fun _=>bi 45 (lE AF [2] []) (bi 51 (lE AF [2] []) (cn fun y3 F3=>jc (sb [.sl 9 q.cons.length (Aq AG q.cons),.fn 97 1 (L1 [.ref 0 0])] (wj F3) [some (.cells (AE q))] ⟨Aa.plain (by kernel_rfl),(Aa.fnL (l:=[.ref 0 0]) (l0:=[.fp 5 (L1 (AE q))]) ⟨(Aa.refL (l:=(AE q)) (l0:=(AE q)) rfl ⟨Aa.plain (by kernel_rfl),Aa.plain (by kernel_rfl),Aa.plain (by kernel_rfl),Aa.plain (by kernel_rfl),Aa.plain (by kernel_rfl),trivial⟩),trivial⟩),trivial⟩) (bi 56 (lE AF [2] []) (lE AF [2] [])))))))))))
def Wq (n:Nat) (q:AA) (i:Int):Option (Int×Int):=
 (valid n q).bind fun y1=>
  bif (y1 != 0) then
   some (0,y1)
  else
   bif (decide (i<0)) then
    some (0,260)
   else
    bif (decide (i>=(q.cons.length:Int))) then
     some (0,260)
    else
     if (0<=i/\ i<(q.cons.length:Int))/\ ((0:Int)<=((q.cons.getD ((i).toNat) default).kind)/\ ((q.cons.getD ((i).toNat) default).kind)<((10:Nat):Int)) then
      some (([0,1,1,2,2,3,1,1,4,4]:List Int).getD ((q.cons.getD ((i).toNat) default).kind).toNat 0,0)
     else none
def MJ (n:Nat) (q:AA) (i:Int):Option (Int×Int):=Wq n q i
theorem Wp {n:Nat} {q:AA} {i:Int} {r:Int×Int} (h:MJ n q i=some r):EQ 53 [.agg 5 (L1 (AE q)),.i i] [] (.tup 2 (L1 [.i r.1,.i r.2])) [] true:=by
 unfold MJ Wq at h;refine ot Tryz.func53 fun B N=>?_
 revert r;apply gO;exact cf VD [some (.cells (AE q))] fun _=>bi 10 (lE AF [4,5] []) (bi 13 (lE AF [4,5] []) (bi 19 (lE AF [4,5] []) (gc (gi (gn fun g1=>jg g1 (jo 28 (AS.ixI [0,1,1,2,2,3,1,1,4,4] rfl g1) (lE AF [4,5] [])))))))
def YR (n:Nat) (q:AA) (pos:List Int):Option Bool:=
 (UQ n q).bind fun y1=>
  bif y1 then
   some (decide ((pos.length:Int)<=20))
  else
   some false
def Mu (n:Nat) (q:AA) (pos:List Int):Option Bool:=YR n q pos
theorem fu {n:Nat} {q:AA} {pos:List Int} {r:Bool} (h:Mu n q pos=some r):EQ 23 [.agg 5 (L1 (AE q)),.ints pos] [] (.bool r) [] true:=by
 unfold Mu YR at h;refine ot Tryz.func23 fun B N=>?_
 revert r;apply gO;exact cf vo [some (.cells (AE q))] fun _=>bi 6 (lE AF [4] []) (lE AF [4] [])
end Go.Proofs.YtgkhhfnhacibcaaGreatDoor
namespace Go.Proofs.YtgkhhfnhacibcaaGreatDoor
abbrev yO:=@cond_false
abbrev yS:=@decide_eq_false
abbrev yU:=@Int.toNat_natCast
abbrev yV:=@cond_true
abbrev zW:=@beq_eq_false_iff_ne
abbrev za:=@decide_eq_false_iff_not
abbrev zg:=@Bool.not_false
abbrev zz:=@Bool.or_false
abbrev zAE:=@Int.natCast_nonneg
abbrev zAI:=@decide_true
abbrev zAJ:=@Int.eq_ofNat_of_zero_le
abbrev zAT:=@List.exists_of_findSome?_eq_some
abbrev zAj:=@List.contains_iff_mem
abbrev zAm:=@Bool.eq_false_iff
abbrev zAp:=@List.findSome?_eq_none_iff
abbrev zA0:=@List.pairwise_iff_getElem
abbrev zA5:=@List.length_erase_of_mem
abbrev zBG:=@and_self
abbrev zBQ:=@List.range_eq_range'
end Go.Proofs.YtgkhhfnhacibcaaGreatDoor
namespace Go.Proofs.YtgkhhfnhacibcaaGreatDoor
def MT (lo hi:Int) (n:Int):Bool:=decide (lo<=n)&&decide (n<=hi)
def EZ (xs:List Int) (lo hi:Int):Bool:=xs.all (MT lo hi)
def Gm (g:List (List Int)) (i:Nat) (l:List Int) (k:Nat):Bool:=
 let n:=l.getD k 0
 decide (0<=n)&&decide (n<g.length)&&(n != i)&&(!decide (0<k)||decide (l.getD (k-1) 0<n))&&(g.getD n.toNat []).contains (i:Int)
def Ih (g:List (List Int)) (i:Nat) (l:List Int):Bool:=(List.range l.length).all (Gm g i l)
def J5 (g:List (List Int)):Bool:=decide (g.length<=256)&&(List.range g.length).all fun i=>Ih g i (g.getD i [])
def M3 (n kind:Int) (cells:List Int) (i:Nat):Bool:=
 let x:=cells.getD i 0
 decide (0<=x)&&decide (x<n)&&!(cells.take i).contains x&&(!decide (8<=kind)||x==(i:Int))
def Uo (n kind:Int) (cells:List Int):Bool:=(List.range cells.length).all (M3 n kind cells)
def Ff (n kind:Int) (len:Nat):Bool:=
 (decide (1<=kind)&&decide (kind<=5))||((kind==6||kind==7)&&len==2)||((kind==8||kind==9)&&(len:Int)==n)
def Ek (q:AA) (c:AB):Bool:=
 Uo q.cells c.kind c.cells&&Ff q.cells c.kind c.cells.length&&
 EZ [c.set,c.other] 0 (2 ^ q.symbols.toNat-1)&&EZ [c.lo,c.hi] 0 65536&&decide (c.runs.length<=8)&&EZ c.runs 1 256
def WX (l:List Int):Bool:=(List.range l.length).all fun i=>!(l.take i).contains (l.getD i 0)
theorem WW: ∀ (n:Nat) (l:List Int),l.Nodup -> (∀ x∈l,0<=x/\ x<(n:Int)) -> l.length<=n
 | 0,l,_,h=>by
  cases l with
  | nil=>simp
  | cons a l=>have:=h a (by simp);omega
 | n+1,l,hd,h=>by
  have h1:(l.erase (n:Int)).length<=n:=WW n _ (hd.erase _) (fun x hx=>by
   have:=hd.mem_erase_iff.1 hx;have h2:=h x this.2;have h3:=this.1;omega)
  by_cases hm:(n:Int)∈l
  ·have:=zA5 hm;omega
  ·rw [List.erase_of_not_mem hm] at h1;omega
theorem pF {l:List Int}:WX l=true↔l.Nodup:=by
 unfold WX List.Nodup;rw [ya,zA0];constructor
 ·intro h i j hi hj OD e;have:=h j (by simpa using hj);simp only [u8,yQ hj,z8,zM] at this;rw [zAm,ne_eq,zAj,List.mem_take_iff_getElem] at this;exact this ⟨i,by omega,e⟩
 ·intro h i hi;have BN:i<l.length:=by simpa using hi
  simp only [u8,yQ BN,z8,zM];rw [zAm,ne_eq,zAj,List.mem_take_iff_getElem];rintro ⟨j,hj,e⟩;exact h j i (by omega) BN (by omega) e
theorem Rf {l:List Int} {lo hi:Int}:EZ l lo hi=true↔∀ x∈l,lo<=x/\ x<=hi:=by
 unfold EZ;simp [MT]
theorem xF {n kind:Int} {cells:List Int}:Uo n kind cells=true↔(∀ x∈cells,0<=x/\ x<n)/\ cells.Nodup/\ (8<=kind -> ∀ j,j<cells.length -> cells.getD j 0=(j:Int)):=by
 rw [←pF];unfold Uo WX M3;simp only [ya,yh,yT,y8,yk,zM,yo,za];constructor
 ·intro h;refine ⟨fun x hx=>?_,fun j hj=>(h j hj).1.2,fun h8 j hj=>?_⟩
  ·obtain ⟨j,hj,rfl⟩:=zk hx;have:=(h j hj).1.1;simpa [hj] using this
  ·rcases (h j hj).2 with h' | h'
   ·exact absurd h8 h'
   ·exact h'
 ·rintro ⟨h1,h2,h3⟩ j hj;have hx:=h1 _ (yw hj);refine ⟨⟨by simpa [hj] using hx,h2 j hj⟩,?_⟩
  by_cases h8:8<=kind
  ·exact .inr (h3 h8 j hj)
  ·exact .inl h8
def Dc (q:AA):Bool:=
 decide (1<=q.cells)&&decide (q.cells<=256)&&decide (1<=q.symbols)&&decide (q.symbols<=16)&&((q.values.length:Int)==q.symbols)&&EZ q.values 0 99&&
 ((q.nbrs.length:Int)==q.cells)&&J5 q.nbrs&&decide (q.cons.length<=4096)&&q.cons.all (Ek q)
def Wk (kind:Int):Int:=if kind=3∨kind=4 then 2 else if kind=5 then 3 else if kind=8∨kind=9 then 4 else 1
def Iu (q:AA) (i:Int):Int×Int:=
 if Dc q=false then (0,191) else if 0<=i/\ i<q.cons.length then (Wk ((q.cons.getD i.toNat default).kind),0) else (0,260)
theorem IW {q:AA} (h:Dc q=true):(1<=q.cells/\ q.cells<=256)/\ (1<=q.symbols/\ q.symbols<=16)/\ ((q.values.length:Int)=q.symbols/\ EZ q.values 0 99=true)/\
 ((q.nbrs.length:Int)=q.cells/\ J5 q.nbrs=true)/\ q.cons.length<=4096/\ ∀ c∈q.cons,Ek q c=true:=by
 unfold Dc at h;simp only [yT,y8,yo,ya] at h;obtain ⟨⟨⟨⟨⟨⟨⟨⟨⟨h1,h2⟩,h3⟩,h4⟩,h5⟩,h6⟩,h7⟩,h8⟩,h9⟩,Mr⟩:=h;exact ⟨⟨h1,h2⟩,⟨h3,h4⟩,⟨h5,h6⟩,⟨h7,h8⟩,h9,Mr⟩
theorem dW {q:AA} {c:AB} (h:Ek q c=true):Ff q.cells c.kind c.cells.length=true:=by
 unfold Ek at h;simp only [yT] at h;exact h.1.1.1.1.2
theorem MK {n kind:Int} {len:Nat} (h:Ff n kind len=true):1<=kind/\ kind<=9:=by
 unfold Ff at h;simp at h;omega
theorem ML {k:Int} (h:1<=k/\ k<=9):k=1∨k=2∨k=3∨k=4∨k=5∨k=6∨k=7∨k=8∨k=9:=by omega
end Go.Proofs.YtgkhhfnhacibcaaGreatDoor
namespace Go.Proofs.YtgkhhfnhacibcaaGreatDoor
open Go.RowKit
theorem aj {R:Type} (m:Nat -> Int -> Option R) (len N0:Nat) (B:Nat -> Option R) (h0: ∀ (n i:Nat),N0<=n -> i<len -> m (n+1) (i:Int)=(B i).or (m n ((i:Int)+1))):
 ∀ (k i n:Nat),i+k=len -> N0<=n -> m (n+k) (i:Int)=((List.range' i k).findSome? B).or (m n (len:Int))
 | 0,i,n,h,hn=>by
  have:i=len:=by omega
  subst this;rfl
 | k+1,i,n,h,hn=>by
  show m (n+k+1) (i:Int)=_
  rw [h0 (n+k) i (by omega) (by omega),List.range'_succ,List.findSome?_cons];cases B i with
  | some r=>rfl
  | none=>
   have:=aj m len N0 B h0 k (i+1) n (by omega) hn;rw [←this];simp
theorem PG {R:Type} (m:Nat -> Int -> Option R) (len N0:Nat) (B:Nat -> Option R) (h0: ∀ (n i:Nat),N0<=n -> i<len -> m (n+1) (i:Int)=(B i).or (m n ((i:Int)+1))) {n:Nat} (hn:N0+len<=n):
 m n 0=((List.range len).findSome? B).or (m (n-len) (len:Int)):=by
 have:=aj m len N0 B h0 len 0 (n-len) (by omega) (by omega);rw [Nat.sub_add_cancel (by omega)] at this;rw [zBQ];exact this
theorem fo {R:Type} {l:List Nat} {p:Nat -> Bool} {r:R}:(l.findSome? fun i=>if p i then none else some r)=if l.all p then none else some r:=by
 induction l with
 | nil=>rfl
 | cons a l ih=>
  rw [List.findSome?_cons,zBO];cases hp:p a
  ·simp
  ·simp [ih]
theorem bc {α:Type} {l:List α} {d:α} {p:α -> Bool}:((List.range l.length).all fun i=>p (l.getD i d))=l.all p:=by
 rw [z6,ya,ya];constructor
 ·intro h x hx;obtain ⟨i,hi,rfl⟩:=zk hx;have:=h i (by simpa using hi);simpa [hi] using this
 ·intro h i hi;have BN:i<l.length:=by simpa using hi
  simp [BN,h _ (yw BN)]
theorem r64 {i len:Nat} (h:i<len) (hl:len<=LB):AL ((i:Int)+1):=by rw [A2];unfold LB at hl;omega
theorem rC {l:List Int} {lo up:Int} {n:Nat} (hl:l.length<=LB) (hn:l.length<n): ∃ r:Int,Tb n l lo up=some r/\ (0<=r↔EZ l lo up=false):=by
 unfold Tb dt;have S:=PG (fun n i=>MQ l lo up n (.l1 i)) l.length 0 (fun i=>if MT lo up (l.getD i 0) then none else some (i:Int)) (fun n i _ hi=>?_) (n:=n) (by omega)
 ·have S:=S;rw [show MQ l lo up n (.l1 0)=_ from S];cases hf:(List.range l.length).findSome? (fun i=>if MT lo up (l.getD i 0) then none else some (i:Int)) with
  | some r=>
   refine ⟨r,rfl,?_⟩;obtain ⟨i,hi,hr⟩:=zAT hf;have BN:i<l.length:=by simpa using hi
   split at hr
   ·cases hr
   ·rename_i hx;cases hr;refine ⟨fun _=>?_,fun _=>by omega⟩;unfold EZ;rw [List.all_eq_false];exact ⟨l[i],yw BN,by simpa [BN] using hx⟩
  | none=>
   obtain ⟨m,hm⟩: ∃ m,n-l.length=m+1:=⟨n-l.length-1,by omega⟩;refine ⟨-1,by rw [hm];simp [MQ,W9],?_⟩;rw [zAp] at hf
   have:EZ l lo up=true:=by
    unfold EZ;rw [←bc (p:=MT lo up) (d:=(0:Int)),ya];intro i hi;have:=hf i hi;cases hc:MT lo up (l.getD i 0) with
    | true=>rfl
    | false=>rw [hc] at this;simp at this
   simp [this]
 ·have h1:(i:Int)<(l.length:Int):=by omega
  have h2:=r64 hi hl;simp only [MQ,W9,VA,ZW,h1,h2,zAI,yV,zAE,zBG,zo,yU,MT];obtain ⟨x,hg⟩: ∃ y,l.getD i 0=y:=⟨_,rfl⟩;simp only [hg]
  by_cases a:x<lo
  ·have: ¬ lo<=x:=by omega
   simp [a,this]
  ·have a':lo<=x:=by omega
   by_cases b:up<x
   ·have: ¬ x<=up:=by omega
    simp [a,b,a',this]
   ·have b':x<=up:=by omega
    simp [a,b,a',b']
theorem Sb {l:List Int} {lo up:Int} {n:Nat} (hl:l.length<=LB) (hn:l.length<n):Km n l lo up=some (EZ l lo up):=by
 obtain ⟨r,h1,h2⟩:=rC (lo:=lo) (up:=up) hl hn;unfold Km V4 Ue Yf;rw [h1];cases hw:EZ l lo up with
 | true=>
  have: ¬ 0<=r:=fun h=>by rw [h2.1 h] at hw;cases hw
  simp [this]
 | false=>
  have:0<=r:=h2.2 hw;simp [this]
theorem wn {l:List Int} {x:Int} {n:Nat} (hl:l.length<=LB) (hn:l.length<n):LQ n l x=some (l.contains x):=by
 have: ∃ r:Int,Td n l x=some r/\ (0<=r↔l.contains x=true):=by
  unfold Td du;have S:=PG (fun n i=>MR l x n (.l1 i)) l.length 0 (fun i=>if (x != l.getD i 0) then none else some (i:Int)) (fun n i _ hi=>?_) (n:=n) (by omega)
  ·rw [show MR l x n (.l1 0)=_ from S];cases hf:(List.range l.length).findSome? (fun i=>if (x != l.getD i 0) then none else some (i:Int)) with
   | some r=>
    refine ⟨r,rfl,?_⟩;obtain ⟨i,hi,hr⟩:=zAT hf;have BN:i<l.length:=by simpa using hi
    split at hr
    ·cases hr
    ·rename_i hx;cases hr;refine ⟨fun _=>?_,fun _=>by omega⟩;have:x=l[i]:=by simpa [BN] using hx
     rw [this];simp
   | none=>
    obtain ⟨m,hm⟩: ∃ m,n-l.length=m+1:=⟨n-l.length-1,by omega⟩;refine ⟨-1,by rw [hm];simp [MR,XA],?_⟩;rw [zAp] at hf
    have:l.contains x=false:=by
     rw [zAm];intro h;obtain ⟨i,hi,e⟩:=zk (by simpa using h:x∈l);have:=hf i (by simpa using hi);simp [hi,e] at this
    rw [this];simp
  ·have h1:(i:Int)<(l.length:Int):=by omega
   have h2:=r64 hi hl;simp only [MR,XA,h1,h2,zAI,yV,zAE,zBG,zo,yU];obtain ⟨y,hg⟩: ∃ y,l.getD i 0=y:=⟨_,rfl⟩;simp only [hg]
   by_cases a:x=y
   ·simp [a]
   ·have:(x==y)=false:=by simp [a]
    simp [this,a]
 obtain ⟨r,h1,h2⟩:=this;unfold LQ Yg;rw [h1]
 by_cases h:0<=r
 ·have:=h2.1 h;simp only [yX];rw [this];simp [h]
 ·have:l.contains x=false:=by rw [zAm];exact fun hc=>h (h2.2 hc)
  simp only [yX];rw [this];simp;omega
end Go.Proofs.YtgkhhfnhacibcaaGreatDoor
namespace Go.Proofs.YtgkhhfnhacibcaaGreatDoor
open Go.RowKit
def Gb (g:List (List Int)):Nat:=(g.map fun r=>r.length+2).sum
theorem U9: ∀ {g:List (List Int)} {r:List Int},r∈g -> r.length+2<=Gb g
 | [],_,h=>by cases h
 | a::g,r,h=>by
  simp only [Gb,zy,List.sum_cons];rcases yq.1 h with rfl | h
  ·omega
  ·have:=U9 h;unfold Gb at this;omega
theorem jD {g:List (List Int)} {v:Nat} (hv:v<g.length):Gb (g.drop v)=(g.getD v []).length+2+Gb (g.drop (v+1)):=by
 rw [zF hv];simp only [Gb,zy,List.sum_cons,u8,yQ hv,z8]
theorem YM {g:List (List Int)} {v:Nat} (hv:v<g.length):g.getD v []∈g:=by
 rw [u8,yQ hv];exact yw hv
section
variable {g:List (List Int)} {v j n:Nat}
theorem pJ {R:Type} (next Oh:R) (c:Bool -> R) (hc:c true=next) (LA:c false=Oh) (hv:v<g.length) (hj:j<(g.getD v []).length):
 (if Gm g v (g.getD v []) j then next else Oh)=
  (if (g.getD v []).getD j 0<0 then Oh else if (g.getD v []).getD j 0>=(g.length:Int) then Oh else if (g.getD v []).getD j 0=(v:Int) then Oh else
   if 0<j then (if (g.getD v []).getD (j-1) 0>=(g.getD v []).getD j 0 then Oh else c ((g.getD ((g.getD v []).getD j 0).toNat []).contains (v:Int)))
   else c ((g.getD ((g.getD v []).getD j 0).toNat []).contains (v:Int))):=by
 unfold Gm;obtain ⟨x,hx⟩: ∃ x,(g.getD v []).getD j 0=x:=⟨_,rfl⟩;obtain ⟨y,hy⟩: ∃ y,(g.getD v []).getD (j-1) 0=y:=⟨_,rfl⟩;simp only [hx,hy]
 by_cases a:x<0
 ·have: ¬ 0<=x:=by omega
  simp [a,this]
 ·have a':0<=x:=by omega
  by_cases b:x>=(g.length:Int)
  ·have: ¬ x<(g.length:Int):=by omega
   simp [a,b,this]
  ·have b':x<(g.length:Int):=by omega
   by_cases d:x=(v:Int)
   ·simp [a,b,d]
   ·have d':(x != (v:Int))=true:=by simp [d]
    cases hcc:(g.getD x.toNat []).contains (v:Int) with
    | true=>
     by_cases e:0<j
     ·by_cases f:y>=x
      ·have: ¬ y<x:=by omega
       simp [a,b,d,d',e,f,this,a',b']
      ·have f':y<x:=by omega
       simp [a,b,d,d',e,f,f',a',b',hc]
     ·simp [a,b,d,d',e,a',b',hc]
    | false=>
     by_cases e:0<j
     ·by_cases f:y>=x
      ·have: ¬ y<x:=by omega
       simp [a,b,d,d',e,f,this,a',b']
      ·have f':y<x:=by omega
       simp [a,b,d,d',e,f,f',a',b',LA]
     ·simp [a,b,d,d',e,a',b',LA]
theorem n0 {j len:Nat} (h:j<len) (hl:len<=LB):AL ((j:Int)-1):=by rw [A2];unfold LB at hl;omega
theorem WC {j len:Nat} (h:0<j) (h2:j<len):((0:Int)<=(j:Int)-1/\ (j:Int)-1<(len:Int))/\ ((j:Int)-1).toNat=j-1/\ (j:Int)>0:=by omega
theorem vN {self:OP -> Option Int} {row:List Int} (MY:row=g.getD v []) (hv:v<g.length) (hg:g.length<=256) (hj:j<(g.getD v []).length) (hr: ∀ r∈g,r.length<=LB) (hn: ∀ r∈g,r.length<n):
 UB n self g (v:Int) row (v:Int) row (row.length:Int) (j:Int)=(if Gm g v (g.getD v []) j then none else some (120:Int)).or (self (.l2 (v:Int) row (v:Int) row (row.length:Int) ((j:Int)+1))):=by
 subst MY;have Ay:=hr _ (YM hv);have h1:(v:Int)<(g.length:Int):=by omega
 have h2:(j:Int)<((g.getD v []).length:Int):=by omega
 have h3:=r64 hj Ay;obtain ⟨NX,fL⟩: ∃ NX,self (.l2 (v:Int) (g.getD v []) (v:Int) (g.getD v []) ((g.getD v []).length:Int) ((j:Int)+1))=NX:=⟨_,rfl⟩;have key:=pJ (g:=g) (v:=v) (j:=j) NX (some (120:Int)) (fun b=>bif b then NX else some 120) rfl rfl hv hj
 have e1:((if Gm g v (g.getD v []) j then none else some (120:Int)).or NX)=(if Gm g v (g.getD v []) j then NX else some 120):=by
  cases Gm g v (g.getD v []) j <;> rfl
 rw [fL,e1,key];simp only [UB,h1,h2,h3,zAI,yV,zAE,zBG,zo,yU,fL];obtain ⟨x,hx⟩: ∃ x,(g.getD v []).getD j 0=x:=⟨_,rfl⟩;simp only [hx]
 by_cases a:x<0
 ·simp [a]
 by_cases b:x>=(g.length:Int)
 ·simp [a,b]
 by_cases d:x=(v:Int)
 ·simp [a,b,d]
 have d':(x==(v:Int))=false:=by simp [d]
 have Th:g.getD x.toNat []∈g:=YM (by omega);have hh:LQ n (g.getD x.toNat []) (v:Int)=some ((g.getD x.toNat []).contains (v:Int)):=wn (hr _ Th) (hn _ Th);have HM:0<=x/\ x<(g.length:Int):=by omega
 have fin:((LQ n (g.getD x.toNat []) (v:Int)).bind fun y1=>bif (!y1) then some (120:Int) else NX)=(bif (g.getD x.toNat []).contains (v:Int) then NX else some 120):=by
  rw [hh];cases (g.getD x.toNat []).contains (v:Int) <;> rfl
 by_cases e:0<j
 ·have h4:AL ((j:Int)-1)/\ ((0:Int)<=(j:Int)-1/\ (j:Int)-1<((g.getD v []).length:Int)):=⟨n0 hj Ay,(WC e hj).1⟩;have h5:=(WC e hj).2.1;have e':=(WC e hj).2.2;simp only [e',h4,h5,e,HM,d',zAI,yV,yO,zo,yS a,yS b,zBG,yb a,yb b,yb d,fin]
  by_cases f:(g.getD v []).getD (j-1) 0>=x
  ·simp only [f,zAI,yV,zo]
  ·simp only [yS f,yO,yb f]
 ·have e': ¬ (j:Int)>0:=by omega
  simp only [HM,d',yO,zo,yS a,yS b,yS e',zBG,yb a,yb b,yb d,yb e,fin]
end
theorem m5 {g:List (List Int)} {v:Nat} (hv:v<g.length):((List.range' v (g.length-v)).all fun i=>Ih g i (g.getD i []))=(Ih g v (g.getD v [])&&(List.range' (v+1) (g.length-(v+1))).all fun i=>Ih g i (g.getD i [])):=by
 have:g.length-v=g.length-(v+1)+1:=by omega
 rw [this,List.range'_succ,zBO]
theorem ff {g:List (List Int)} (hg:g.length<=256) (hr: ∀ r∈g,r.length<=LB): ∀ (k v n:Nat),v+k=g.length -> Gb (g.drop v)+Gb g+1<=n -> IF g n (.l1 (v:Int))=some (E7 ((List.range' v (g.length-v)).all fun i=>Ih g i (g.getD i [])) 120)
 | 0,v,n,hv,hn=>by
  have:v=g.length:=by omega
  subst this;obtain ⟨m,rfl⟩: ∃ m,n=m+1:=⟨n-1,by omega⟩;simp [IF,YO,E7]
 | k+1,v,n,hv,hn=>by
  have DJ:v<g.length:=by omega
  rw [jD DJ] at hn;have hm:=U9 (YM DJ);obtain ⟨m,rfl⟩: ∃ m,n=m+1:=⟨n-1,by omega⟩;have h1:(v:Int)<(g.length:Int):=by omega
  have e1:IF g (m+1) (.l1 (v:Int))=IF g m (.l2 (v:Int) (g.getD v []) (v:Int) (g.getD v []) ((g.getD v []).length:Int) 0):=by
   simp only [IF,YO,h1,zAI,yV,zAE,zBG,zo,yU]
  rw [e1];have S:=PG (fun n i=>IF g n (.l2 (v:Int) (g.getD v []) (v:Int) (g.getD v []) ((g.getD v []).length:Int) i)) (g.getD v []).length (Gb g) (fun j=>if Gm g v (g.getD v []) j then none else some 120) (fun n' j HQ hj=>vN (n:=n') rfl DJ hg hj hr fun r Cz=>by have:=U9 Cz;omega) (n:=m) (by omega);refine S.trans ?_;rw [fo,m5 DJ];have eR:((List.range (g.getD v []).length).all fun i=>Gm g v (g.getD v []) i)=Ih g v (g.getD v []):=rfl;rw [eR];cases Ih g v (g.getD v []) with
  | false=>rfl
  | true=>
   obtain ⟨m',CN⟩: ∃ m',m-(g.getD v []).length=m'+1:=⟨m-(g.getD v []).length-1,by omega⟩;rw [CN];have h2:AL ((v:Int)+1):=by rw [A2];omega
   have ih:=ff hg hr k (v+1) m' (by omega) (by omega);have h3: ¬ (((g.getD v []).length:Int)<((g.getD v []).length:Int)):=by omega
   simp only [zo,IF,UB,h2,yS h3,yO,zJ];exact ih
theorem fe {g:List (List Int)} {n:Nat} (hr: ∀ r∈g,r.length<=LB) (hn:2*Gb g+1<=n):Qi n g=some (E7 (J5 g) 120):=by
 unfold Qi fc J5
 by_cases h:(g.length:Int)>256
 ·have: ¬ g.length<=256:=by omega
  simp [h,this,E7]
 ·have h':g.length<=256:=by omega
  have:=ff h' hr g.length 0 n (by omega) (by simp;omega);simp only [yS h,yO,yW h',zJ];rw [zBQ];simpa using this
end Go.Proofs.YtgkhhfnhacibcaaGreatDoor
namespace Go.Proofs.YtgkhhfnhacibcaaGreatDoor
open Go.RowKit
theorem bu {s:Int} (h1:1<=s) (h2:s<=16):IntKind.i64.wrap (1*2 ^ s.toNat)=2 ^ s.toNat/\ AL ((2:Int) ^ s.toNat-1)/\ ((0:Int)<=s/\ s<=((IntKind.i64.bits:Nat):Int)):=by
 obtain ⟨m,rfl⟩:=zAJ (show 0<=s by omega);rw [yU];have h:m<17:=by omega
 refine ⟨?_,?_,by omega,by show (m:Int)<=64;omega⟩
 ·revert h;clear h1 h2;revert m;decide
 ·revert h;clear h1 h2;revert m;decide
section
variable {c:AB} {n:Nat}
def SU (sy:Int) (c:AB):Bool:=EZ [c.set,c.other] 0 (2 ^ sy.toNat-1)&&EZ [c.lo,c.hi] 0 65536&&decide (c.runs.length<=8)&&EZ c.runs 1 256
theorem dM {a b:Int}:([a,b]:List Int).length<=LB:=by show 2<=LB;unfold LB;omega
theorem qM {l:List Int}:(decide (((l.length:Nat):Int)<=8))=decide (l.length<=8):=by rw [z6];simp;omega
theorem vZ {self:LI -> Option Bool} {q:AA} (h1:1<=q.symbols) (h2:q.symbols<=16) (hr:c.runs.length<=LB) (hn:c.runs.length<n) (IA:2<n):UJ n self q c=some (SU q.symbols c):=by
 obtain ⟨p1,p2,p3⟩:=bu h1 h2;unfold UJ;rw [p1,yP ⟨p3,p2⟩,Sb dM (show 2<n from IA),Sb dM (show 2<n from IA),Sb hr hn];unfold SU;rw [qM];cases EZ [c.set,c.other] 0 (2 ^ q.symbols.toNat-1) <;> cases EZ [c.lo,c.hi] 0 65536 <;> cases decide (c.runs.length<=8) <;> rfl
theorem vb {self:LI -> Option Bool} {q:AA} (hq:q.cells<=256) (hc:c.cells.length<=LB) {i:Nat} (hi:i<c.cells.length) {o:List Bool} (ho:o.length=256) (hm: ∀ x:Nat,x<256 -> o.getD x false=(c.cells.take i).contains (x:Int)):
 Qo n self q c (i:Int) o=if M3 q.cells c.kind c.cells i then self (.l1 ((i:Int)+1) (o.set (0+(c.cells.getD i 0).toNat) true)) else some false:=by
 have h1:(i:Int)<(c.cells.length:Int):=by omega
 have h2:=r64 hi hc;unfold M3;obtain ⟨x,hx⟩: ∃ x,c.cells.getD i 0=x:=⟨_,rfl⟩;simp only [Qo,h1,h2,zAI,yV,zAE,zBG,zo,yU,hx]
 by_cases a:x<0
 ·have: ¬ 0<=x:=by omega
  simp [a,this]
 have a':0<=x:=by omega
 by_cases b:x>=q.cells
 ·have: ¬ x<q.cells:=by omega
  simp [a,b,this]
 have b':x<q.cells:=by omega
 have hg:((0:Int)<=x/\ x<((256:Nat):Int))/\ 0+x.toNat<o.length:=⟨⟨a',by omega⟩,by omega⟩
 have uC:o.getD (0+x.toNat) false=(c.cells.take i).contains x:=by
  rw [yt,hm x.toNat (by omega)]
  congr 1;omega
 simp only [hg,uC,yS a,yS b,yO,zo,yW a',yW b',zJ,zBG];cases (c.cells.take i).contains x with
 | true=>rfl
 | false=>
  by_cases e:c.kind>=8
  ·have e':8<=c.kind:=e
   by_cases f:x=(i:Int)
   ·have f1:(x != (i:Int))=false:=by simp [f]
    have f2:(x==(i:Int))=true:=by simp [f]
    simp only [e,e',f1,f2,zAI,yV,yO,zg,zS,zAG,zJ,zo]
   ·have f1:(x != (i:Int))=true:=by simp [f]
    have f2:(x==(i:Int))=false:=by simp [f]
    simp only [e,e',f1,f2,zAI,yV,yO,zg,zS,zAG,zJ,zL,zAS]
  ·have e': ¬ 8<=c.kind:=e;simp only [yS e,yS e',zAI,yO,zg,Bool.true_or,Bool.and_self,zo]
theorem va {self:LI -> Option Bool} {q:AA} {o:List Bool}:Qo n self q c (c.cells.length:Int) o=if Ff q.cells c.kind c.cells.length then self .l2 else some false:=by
 have h1: ¬ ((c.cells.length:Int)<(c.cells.length:Int)):=by omega
 simp only [Qo,yS h1,yO]
 by_cases hk:1<=c.kind/\ c.kind<=9
 ·obtain ⟨k,eV⟩: ∃ k,c.kind=k:=⟨_,rfl⟩;rw [eV] at hk;simp only [eV];have e2:(((c.cells.length:Nat):Int) != 2)= !(c.cells.length==2):=by rw [z6];simp;omega
  have e3:(((c.cells.length:Nat):Int) != q.cells)= !(((c.cells.length:Nat):Int)==q.cells):=rfl;rcases ML hk with h | h | h | h | h | h | h | h | h <;> subst h
  ·rfl
  ·rfl
  ·rfl
  ·rfl
  ·rfl
  ·show (bif (((c.cells.length:Nat):Int) != 2) then some false else self .l2)=_
   rw [e2];unfold Ff;cases c.cells.length==2 <;> rfl
  ·show (bif (((c.cells.length:Nat):Int) != 2) then some false else self .l2)=_
   rw [e2];unfold Ff;cases c.cells.length==2 <;> rfl
  ·show (bif (((c.cells.length:Nat):Int) != q.cells) then some false else self .l2)=_
   rw [e3];unfold Ff;cases ((c.cells.length:Nat):Int)==q.cells <;> rfl
  ·show (bif (((c.cells.length:Nat):Int) != q.cells) then some false else self .l2)=_
   rw [e3];unfold Ff;cases ((c.cells.length:Nat):Int)==q.cells <;> rfl
 ·have Jz:Ff q.cells c.kind c.cells.length=false:=by
   rw [zAm];exact fun h=>hk (MK h)
  rw [Jz];have z: ∀ m:Int,1<=m -> m<=9 -> (c.kind==m)=false:=fun m h1 h2=>by simp only [zW];omega
  simp [z 1,z 2,z 3,z 4,z 5,z 6,z 7,z 8,z 9]
theorem fl {q:AA} (hq:q.cells<=256) (hc:c.cells.length<=LB) (h1:1<=q.symbols) (h2:q.symbols<=16) (hr:c.runs.length<=LB): ∀ (k i n:Nat) (o:List Bool),i+k=c.cells.length -> k+c.runs.length+6<=n -> o.length=256 -> (∀ x:Nat,x<256 -> o.getD x false=(c.cells.take i).contains (x:Int)) ->
 OT q c n (.l1 (i:Int) o)=some ((List.range' i k).all (M3 q.cells c.kind c.cells)&&Ff q.cells c.kind c.cells.length&&SU q.symbols c)
 | 0,i,n,o,hi,hn,ho,hm=>by
  have:i=c.cells.length:=by omega
  subst this;obtain ⟨m,rfl⟩: ∃ m,n=m+1:=⟨n-1,by omega⟩;refine (va (n:=m)).trans ?_;cases Ff q.cells c.kind c.cells.length with
  | false=>simp
  | true=>
   obtain ⟨m',rfl⟩: ∃ m',m=m'+1:=⟨m-1,by omega⟩
   show UJ m' (OT q c m') q c=_
   rw [vZ h1 h2 hr (by omega) (by omega)];simp
 | k+1,i,n,o,hi,hn,ho,hm=>by
  obtain ⟨m,rfl⟩: ∃ m,n=m+1:=⟨n-1,by omega⟩;refine (vb (n:=m) hq hc (show i<c.cells.length by omega) ho hm).trans ?_;rw [List.range'_succ,zBO];cases T0:M3 q.cells c.kind c.cells i with
  | false=>simp
  | true=>
   have hx:0<=c.cells.getD i 0/\ c.cells.getD i 0<q.cells:=by
    unfold M3 at T0;simp only [yT,y8] at T0;exact ⟨T0.1.1.1,T0.1.1.2⟩
   have ih:=fl hq hc h1 h2 hr k (i+1) m (o.set (0+(c.cells.getD i 0).toNat) true) (by omega) (by omega) (by simp [ho]) (fun x ra=>?_)
   ·simp only [zo,zJ];exact ih
   ·have BN:i<c.cells.length:=by omega
    rw [yt]
    have ht:c.cells.take (i+1)=c.cells.take i++[c.cells.getD i 0]:=by
     rw [List.take_add_one];simp [BN]
    rw [ht,List.contains_append,←hm x ra];rw [u8,zG]
    by_cases e:(c.cells.getD i 0).toNat=x
    ·have e2:((x:Nat):Int)=c.cells.getD i 0:=by omega
     rw [yP e,yP (by omega)];simp [e2]
    ·have e2: ¬ ((x:Nat):Int)=c.cells.getD i 0:=by omega
     rw [yb e]
     have e3:([c.cells.getD i 0].contains ((x:Nat):Int))=false:=by
      simp only [List.contains_cons,List.contains_nil,zz,zW];exact e2
     rw [e3,zz,u8]
theorem ve {q:AA} (hq:q.cells<=256) (hc:c.cells.length<=LB) (h1:1<=q.symbols) (h2:q.symbols<=16) (hr:c.runs.length<=LB) (hn:c.cells.length+c.runs.length+6<=n):UK n q c=some (Ek q c):=by
 unfold UK fm;have:=fl hq hc h1 h2 hr c.cells.length 0 n (List.replicate 256 false) (by omega) (by omega) yi (fun x hx=>by rw [u8,zj,yP hx];rfl);refine Eq.trans this ?_;rw [←zBQ];unfold Ek Uo SU;simp only [Bool.and_assoc]
end
end Go.Proofs.YtgkhhfnhacibcaaGreatDoor
namespace Go.Proofs.YtgkhhfnhacibcaaGreatDoor
open Go.RowKit
section
variable {c:AB} {n:Nat} {cells sy:Int}
end
def O0 (c:AB):Nat:=c.cells.length*(c.cells.length+2)+c.cells.length+c.runs.length+7
theorem jZ (c:AB):O0 c=c.cells.length*(c.cells.length+2)+c.cells.length+c.runs.length+7:=rfl
def Hk (q:AA):Nat:=q.values.length+2*Gb q.nbrs+(q.cons.map O0).sum+q.cons.length+10
structure FA (q:AA):Prop where
 values:q.values.length<=LB
 nbrs: ∀ r∈q.nbrs,r.length<=LB
 cells: ∀ c∈q.cons,c.cells.length<=LB
 runs: ∀ c∈q.cons,c.runs.length<=LB
theorem aH: ∀ {l:List AB} {c:AB},c∈l -> O0 c<=(l.map O0).sum
 | [],_,h=>by cases h
 | a::l,c,h=>by
  rw [zy,List.sum_cons];rcases yq.1 h with rfl | h
  ·omega
  ·have:=aH h;omega
section
variable {q:AA} {n:Nat}
theorem vt {b:Bool}:(E7 b 120==0)=b:=by cases b <;> rfl
theorem jK (hF:FA q) (h1:1<=q.cells) (h2:q.cells<=256) (h3:1<=q.symbols) (h4:q.symbols<=16) (h5:q.cons.length<=4096) (hn:Hk q<=n): ∃ r:Int,TY n q.cons q=some r/\ (0<=r↔q.cons.all (Ek q)=false):=by
 unfold TY dp;have S:=PG (fun n i=>Kz q.cons q n (.l1 i)) q.cons.length (q.cons.map O0).sum (fun i=>if Ek q (q.cons.getD i default) then none else some (i:Int)) (fun n i HQ hi=>?_) (n:=n) (by unfold Hk at hn;omega)
 ·rw [show Kz q.cons q n (.l1 0)=_ from S];cases hf:(List.range q.cons.length).findSome? (fun i=>if Ek q (q.cons.getD i default) then none else some (i:Int)) with
  | some r=>
   refine ⟨r,rfl,?_⟩;obtain ⟨i,hi,hr⟩:=zAT hf;have BN:i<q.cons.length:=by simpa using hi
   split at hr
   ·cases hr
   ·rename_i hx;cases hr;refine ⟨fun _=>?_,fun _=>by omega⟩;rw [List.all_eq_false];exact ⟨q.cons[i],yw BN,by simpa [BN] using hx⟩
  | none=>
   obtain ⟨m,hm⟩: ∃ m,n-q.cons.length=m+1:=⟨n-q.cons.length-1,by unfold Hk at hn;omega⟩;refine ⟨-1,by rw [hm];simp [Kz,TV],?_⟩;rw [zAp] at hf
   have:q.cons.all (Ek q)=true:=by
    rw [←bc (p:=Ek q) (d:=(default:AB)),ya];intro i hi;have:=hf i hi;cases hc:Ek q (q.cons.getD i default) with
    | true=>rfl
    | false=>rw [hc] at this;simp at this
   simp [this]
 ·have AU:(i:Int)<(q.cons.length:Int):=by omega
  have hR:AL ((i:Int)+1):=by rw [A2];omega
  have DW:q.cons.getD i default∈q.cons:=by rw [u8,yQ hi];exact yw hi
  have A5:=aH DW;have uV:=ve (n:=n) h2 (hF.cells _ DW) h3 h4 (hF.runs _ DW) (by rw [jZ (q.cons.getD i default)] at A5;omega)
  show TV n (Kz q.cons q n) q.cons q (i:Int)=_
  generalize Kz q.cons q n=self
  simp only [TV,Ri,VH,AU,hR,zAI,yV,zAE,zBG,zo,yU,uV,yX];cases Ek q (q.cons.getD i default) <;> rfl
theorem VE (hF:FA q) (hn:Hk q<=n):valid n q=some (E7 (Dc q) 191):=by
 unfold valid ZY Dc;have hv:=Sb (lo:=0) (up:=99) hF.values (show q.values.length<n by unfold Hk at hn;omega);have hg:=fe hF.nbrs (show 2*Gb q.nbrs+1<=n by unfold Hk at hn;omega)
 by_cases c1:q.cells<1
 ·have: ¬ 1<=q.cells:=by omega
  simp [c1,this,E7]
 have iA:1<=q.cells:=by omega
 by_cases c2:q.cells>256
 ·have: ¬ q.cells<=256:=by omega
  simp [c1,c2,this,E7]
 have gu:q.cells<=256:=by omega
 by_cases c3:q.symbols<1
 ·have: ¬ 1<=q.symbols:=by omega
  simp [c1,c2,c3,this,E7]
 have gt:1<=q.symbols:=by omega
 by_cases c4:q.symbols>16
 ·have: ¬ q.symbols<=16:=by omega
  simp [c1,c2,c3,c4,this,E7]
 have gq:q.symbols<=16:=by omega
 simp only [yS c1,yS c2,yS c3,yS c4,yW iA,yW gu,yW gt,yW gq,yO,zJ,hv,hg,yX,bne,vt];cases ((q.values.length:Nat):Int)==q.symbols with
 | false=>rfl
 | true=>
 cases EZ q.values 0 99 with
 | false=>rfl
 | true=>
 cases ((q.nbrs.length:Nat):Int)==q.cells with
 | false=>rfl
 | true=>
 cases J5 q.nbrs with
 | false=>rfl
 | true=>
 by_cases c5:((q.cons.length:Nat):Int)>4096
 ·have: ¬ q.cons.length<=4096:=by omega
  simp [c5,this,E7]
 have gp:q.cons.length<=4096:=by omega
 obtain ⟨r,r1,r2⟩:=jK hF iA gu gt gq gp hn;simp only [Ud,Yc,r1,yS c5,yW gp,yX,yO,zJ,zS,vr,beq_self_eq_true];cases ha:q.cons.all (Ek q) with
 | false=>
  have:r>=0:=r2.2 ha;simp [this,E7]
 | true=>
  have: ¬ r>=0:=fun h=>by rw [r2.1 h] at ha;cases ha
  simp [this,E7]
theorem pZ {k:Int} (h:1<=k/\ k<=9):([0,1,1,2,2,3,1,1,4,4]:List Int).getD k.toNat 0=Wk k:=by
 rcases ML h with h | h | h | h | h | h | h | h | h <;> subst h <;> rfl
theorem qf (hv:Dc q=true) {i:Int} (h0:0<=i) (hi:i<(q.cons.length:Int)):1<=(q.cons.getD i.toNat default).kind/\ (q.cons.getD i.toNat default).kind<=9:=by
 have BN:i.toNat<q.cons.length:=by omega
 have DW:q.cons.getD i.toNat default∈q.cons:=by rw [u8,yQ BN];exact yw BN
 exact MK (dW ((IW hv).2.2.2.2.2 _ DW))
theorem qJ (hF:FA q) (hn:Hk q<=n) (i:Int):MJ n q i=some (Iu q i):=by
 unfold MJ Wq Iu;rw [VE hF hn];cases hv:Dc q with
 | false=>rfl
 | true=>
  by_cases h0:i<0
  ·have: ¬ (0<=i/\ i<(q.cons.length:Int)):=by omega
   simp [E7,h0,this]
  ·by_cases hi:i>=(q.cons.length:Int)
   ·have: ¬ (0<=i/\ i<(q.cons.length:Int)):=by omega
    simp [E7,h0,hi,this]
   ·have hc:0<=i/\ i<(q.cons.length:Int):=by omega
    have hk:=qf hv hc.1 hc.2;have hg:(0<=i/\ i<(q.cons.length:Int))/\ (0<=(q.cons.getD i.toNat default).kind/\ (q.cons.getD i.toNat default).kind<((10:Nat):Int)):=⟨hc,by omega,by omega⟩;simp only [E7,zo,yX,zBF,yO,yS h0,yS hi,yP hg,yP hc,pZ hk,Bool.true_eq_false,zAS]
theorem vn (hn:q.cons.length<n): ∃ b,UQ n q=some b:=by
 unfold UQ fv
 have loop:q.cons.length<=120 -> ∃ b,J7 q n (.l1 0)=some b:=fun hl=>by
  have S:=PG (fun n i=>J7 q n (.l1 i)) q.cons.length 0 (fun i=>if (!(decide (((q.cons.getD i default).cells.length:Int)>20))&&!(decide (((q.cons.getD i default).runs.length:Int)>10))) then none else some false) (fun n i _ hi=>?_) (n:=n) (by omega)
  ·rw [show J7 q n (.l1 0)=_ from S];rw [fo];split
   ·obtain ⟨m,hm⟩: ∃ m,n-q.cons.length=m+1:=⟨n-q.cons.length-1,by omega⟩;exact ⟨true,by rw [hm];simp [J7,UO]⟩
   ·exact ⟨false,rfl⟩
  ·have AU:(i:Int)<(q.cons.length:Int):=by omega
   have hR:AL ((i:Int)+1):=by rw [A2];omega
   show UO n (J7 q n) q (i:Int)=_
   generalize J7 q n=self
   simp only [UO,AU,hR,zAI,yV,zAE,zBG,zo,yU];cases decide (((q.cons.getD i default).cells.length:Int)>20) <;> cases decide (((q.cons.getD i default).runs.length:Int)>10) <;> rfl
 cases decide (q.cells>16) with
 | true=>exact ⟨_,rfl⟩
 | false=>
 cases decide (q.symbols>6) with
 | true=>exact ⟨_,rfl⟩
 | false=>
 cases decide (((q.values.length:Nat):Int)>8) with
 | true=>exact ⟨_,rfl⟩
 | false=>
 cases decide (((q.nbrs.length:Nat):Int)>20) with
 | true=>exact ⟨_,rfl⟩
 | false=>
 by_cases h:((q.cons.length:Nat):Int)>120
 ·rw [yW h];exact ⟨_,rfl⟩
 ·rw [yS h];exact loop (by omega)
theorem vm {pos:List Int} (hn:q.cons.length<n): ∃ b,Mu n q pos=some b:=by
 obtain ⟨b,hb⟩:=vn hn;unfold Mu YR;rw [hb];cases b
 ·exact ⟨_,rfl⟩
 ·exact ⟨_,rfl⟩
end
end Go.Proofs.YtgkhhfnhacibcaaGreatDoor
namespace Go.Proofs.YtgkhhfnhacibcaaGreatDoor
abbrev zAq:=@BitVec.ofInt_natCast
abbrev zBU:=@Go.Lib.hid
end Go.Proofs.YtgkhhfnhacibcaaGreatDoor
namespace Go.Proofs.YtgkhhfnhacibcaaGreatDoor
open Go.RowKit
theorem jO (x k XE:Nat) (w:World) (Fh:((x:Int)==0)=false)
 (key:IntKind.u64.wrap (bits BinOp.and IntKind.u64 (x:Int) (IntKind.u64.wrap (-(x:Int)))*285870213051353865)/288230376151711744=(XE:Int))
 (hi:XE<64) (hk:k<64) (Cp:w.cell? ⟨1,XE,none⟩=some (.int .u8 k)):
 Calls Tryz.prog 129 #[.int .u64 x] w fun e w'=>e= .returned (.int .i64 k)/\ w=w':=by
 go_enter Tryz.func129,Tryz.ntmps129
 go_wp2_with (simp only [key])
 go_ret
 exact ⟨rfl,rfl⟩
theorem jP (x:Nat) (hx:x<18446744073709551616) (Fh:x≠0) (w:World) (hT:LV w):
 Calls Tryz.prog 129 #[.int .u64 x] w fun e w'=>e= .returned (.int .i64 (Lib.ctz 64 x))/\ w=w':=by
 obtain ⟨Tu,hk⟩:=Lib.lowest_bit 64 x Fh hx;obtain ⟨hi,ru⟩:=Lib.deBruijn64_at _ hk;have Cp:=hT _ hi;rw [ru] at Cp;exact jO x _ _ w (by simp;omega) (tz64_key x _ hx Fh Tu) hi hk Cp
theorem jN (x:Nat) (hx:x<18446744073709551616) (Fh:x≠0) (w:World) (hT:LV w):
 Calls Tryz.prog 111 #[.int .u64 x] w fun e w'=>e= .returned (.int .i64 (Lib.ctz 64 x))/\ w=w':=by
 have h1:=jP x hx Fh w hT
 go_enter Tryz.func111,Tryz.ntmps111
 go_wp2_with (go_at_call 129;refine h1.mono ?_;rintro e w' ⟨rfl,rfl⟩)
 go_ret
 exact ⟨rfl,rfl⟩
def EJ (x:Nat):List Nat:=(List.range 64).filter fun s=>x.testBit s
theorem aI:EJ 0= []:=by simp [EJ]
theorem pa (k m s:Nat):(2 ^ k*(2*m+1)).testBit s=(decide (k<=s)&&(2*m+1).testBit (s-k)):=by
 rw [zAF,Nat.testBit_mul_two_pow]
theorem om (m s:Nat):(2*m+1).testBit s=(decide (s=0)||(2*m).testBit s):=by
 cases s with
 | zero=>simp [Nat.testBit_zero]
 | succ s=>simp [Nat.testBit_succ];congr 1;omega
theorem nv: ∀ k,k<64 -> List.range 64=List.range k++k::List.range' (k+1) (63-k):=by decide+kernel
theorem aJ (x:Nat) (hx:x<18446744073709551616) (Fh:x≠0):EJ x=Lib.ctz 64 x::EJ (x&&& (x-1)):=by
 have hc:Lib.ctz 64 x=Lib.ctzFrom 64 x:=by simp [Lib.ctz,Fh]
 obtain ⟨m,hm,hk⟩:=Lib.ctzFrom_spec 64 x (by omega) (by simpa using hx);rw [hc]
 generalize Lib.ctzFrom 64 x=k at*
 have hb: ∀ s,x.testBit s=(decide (k<=s)&&(decide (s-k=0)||(2*m).testBit (s-k))):=fun s=>by rw [hm,pa,om]
 have hy: ∀ s,(x&&& (x-1)).testBit s=(x.testBit s&&decide (s≠k)):=by
  intro s;have hp:0<2 ^ k:=Nat.two_pow_pos k
  have Gs:x-1=2 ^ k*(2*m)+(2 ^ k-1):=by
   rw [hm,Nat.mul_add,zR];omega
  have fI:(x-1).testBit s=if s<k then (2 ^ k-1).testBit s else (2*m).testBit (s-k):=by
   rw [Gs,Nat.testBit_two_pow_mul_add _ (by omega)]
  rw [Nat.testBit_and,fI,hb]
  by_cases h1:s<k
  ·rw [yS (by omega: ¬ k<=s)];simp
  ·rw [yb h1]
   by_cases h2:s=k
   ·subst h2;simp
   ·rw [yW (by omega:k<=s),yS (by omega: ¬ s-k=0)];simp [h2]
 unfold EJ;have hr:List.range 64=List.range k++k::List.range' (k+1) (63-k):=nv k hk;rw [hr];simp only [List.filter_append,List.filter_cons]
 have h1: ∀ y:Nat,(∀ s,s<k -> y.testBit s=false) -> (List.range k).filter (fun s=>y.testBit s)= []:=fun y h=>by
  rw [List.filter_eq_nil_iff];intro s hs;simp [h s (yh.1 hs)]
 rw [h1 x (fun s hs=>by rw [hb];simp;omega),h1 (x&&& (x-1)) (fun s hs=>by rw [hy,hb];simp;omega)];have h2:x.testBit k=true:=by rw [hb];simp
 have h3:(x&&& (x-1)).testBit k=false:=by rw [hy];simp
 simp only [h2,h3,zw,zo,zL,zAS]
 congr 1
 apply List.filter_congr;intro s hs;rw [hy];have:=List.mem_range'_1.1 hs;simp;omega
theorem xy (x:Nat) (hx:x<9223372036854775808) (Fh:x≠0):bits .and .i64 (x:Int) ((x:Int)-1)=((x&&& (x-1):Nat):Int):=by
 have e:((x:Int)-1)=((x-1:Nat):Int):=by omega
 have AU:x&&& (x-1)<=x:=Nat.and_le_left;rw [e]
 have h1:(BitVec.ofInt 64 (x:Int)).toNat=x:=by
  rw [zAq,BitVec.toNat_ofNat];exact zAx (by omega)
 have h2:(BitVec.ofInt 64 ((x-1:Nat):Int)).toNat=x-1:=by
  rw [zAq,BitVec.toNat_ofNat];exact zAx (by omega)
 show IntKind.i64.wrap ((BitVec.ofInt 64 (x:Int)&&& BitVec.ofInt 64 ((x-1:Nat):Int)).toNat:Int)=_
 rw [BitVec.toNat_and,h1,h2];have hm:((x&&& (x-1):Nat):Int) % 2 ^ 64=((x&&& (x-1):Nat):Int):=by omega
 simp only [IntKind.wrap,IntKind.signed,IntKind.bits,hm];rw [yb (by rw [zJ,y8];omega)]
def af (w:World) (b o:Nat):Nat:=match w.cell? ⟨b,o,none⟩ with
 | some (.int _ x)=>x.toNat
 | _=>0
def Rs (s:Nat):Array Value:=#[.int .i64 s]
set_option maxRecDepth 100000 in
set_option maxHeartbeats 4000000 in
theorem je (set b o:Nat) (w:World) (sD:set<9223372036854775808) (hT:LV w) (hb:w.cell? ⟨b,o,none⟩=some (.int .i64 set)) (F7:w.frozen? ⟨b,o,none⟩=false) (um:b≠1):
 IT Tryz.prog 110 #[.pointer (some ⟨b,o,none⟩)] ((EJ set).map Rs) (fun k=>k=b) (fun k=>k=1) w:=by
 intro l J Jx G W hJ hJx hU hG YB hY h0;have HY:=zBU hY;clear hY;have YC:G b:=hG b rfl;have uq:W.cell? ⟨b,o,none⟩=some (.int .i64 set):=hU.cell (fun h=>h (.inl rfl)) hb
 have uX:W.frozen? ⟨b,o,none⟩=false:=by
  rw [World.frozen?_of_block (hU.block b (zu w _ hb) (fun h=>h (.inl rfl)))];exact F7
 have uu:LV W:=fun j hj=>hU.cell (fun h=>h (.inr rfl)) (hT j hj)
 refine callsIn_of_wp Tryz.func110 rfl trivial ?_ rfl;simp only [Tryz.ntmps110,zBD,zY,zm,Nat.reduceAdd,Nat.reduceSub,Array.replicate_succ,Array.replicate_zero,List.push_toArray,List.append_toArray,zw,List.cons_append]
 gi_wp2
 gi_loopw [3,4,5,6,7,8,9,10,11,12,13,14] (fun _ _ _ _ _ _ _ _ _ _ _ _ wr=>∃ (i x:Nat),W.heap.size<=wr.heap.size/\ x<9223372036854775808/\ i<=(EJ set).length/\ Hid ((EJ set).drop i=EJ x)/\ Hid (J i G wr)/\ wr.cell? ⟨b,o,none⟩=some (.int .i64 x)/\ wr.frozen? ⟨b,o,none⟩=false/\ Hid (LV wr))
  (fun _ _ _ _ _ _ _ _ _ _ _ _ wr=>af wr b o)
 case atStart=>exact ⟨0,set,ym _,sD,zr _,zBU rfl,zBU h0,uq,uX,zBU uu⟩
 case round=>
  obtain ⟨i,x,A5,hx,Cd,hd,hj,hc,hf,ht⟩:=hrel
  by_cases Fh:x=0
  ·subst Fh
   have EP:i=(EJ set).length:=by
    have:=congrArg List.length hd.out;rw [zBM,aI,zm] at this;omega
   gi_wp2
   go_end0
   exact ⟨⟨_,rfl⟩,.inl ⟨G,EP▸hj.out⟩⟩
  ·have N0:((x:Int)==0)=false:=by simp [Fh]
   have Mi:(EJ set).drop i=Lib.ctz 64 x::EJ (x&&& (x-1)):=by rw [hd.out,aJ x (by omega) Fh]
   have EP:i<(EJ set).length:=by
    rcases zt i (EJ set).length with h | h
    ·exact h
    ·rw [zc h] at Mi;cases Mi
   have uQ:(EJ set)[i]=Lib.ctz 64 x:=by
    have:=zF EP;rw [Mi] at this;injection this with h1 h2;exact h1.symm
   obtain ⟨fn,tmps,iS,body,hy,hR⟩:=HY.out i (Rs (Lib.ctz 64 x)) G wr (by rw [y9,yQ EP,uQ];rfl) hj.out;have ux:=zBU hR;clear hR;unfold Rs at hy;have rt:=zBU (jN x (by omega) Fh wr ht.out);have uf:=zBU Mi;clear Mi hd
   gi_wp2_with (first | refine ⟨trivial,rfl,?_⟩ | (gi_at_call 111;refine (callsIn_wide.2 rt.out).mono ?_;rintro e w' ⟨rfl,rfl⟩))
   refine ⟨rfl,ux.out.mono ?_⟩;rintro e W1 ⟨Gu,(⟨rfl,uO⟩ | ⟨rfl,Gs⟩)⟩
   ·have ul:W1.cell? ⟨b,o,none⟩=some (.int .i64 x):=Gu.cell (fun h=>h (.inl YC)) hc
    have uY:W1.frozen? ⟨b,o,none⟩=false:=by
     rw [World.frozen?_of_block (Gu.block b (zu wr _ hc) (fun h=>h (.inl YC)))];exact hf
    have d5:LV W1:=fun j hj=>Gu.cell (fun h=>h (.inr rfl)) (ht.out j hj)
    have Cc:AQ G W1 (W1.setCell ⟨b,o,none⟩ (.int .i64 ((x&&& (x-1):Nat):Int))):=(AQ.refl G W1).setCell (fun _=>YC) _;have d6:=yf A5 (yf Gu.size Cc.size);have GQ:=zBU (hJ _ _ _ _ _ uO Cc (fun k h=>.inl h) (fun k h=>yc (YB k h) d6))
    have rz:Hid (LV (W1.setCell ⟨b,o,none⟩ (.int .i64 ((x&&& (x-1):Nat):Int)))):=zBU fun j hj=>
     ((AQ.refl (fun k=>k=b) W1).setCell (fun _=>rfl) _).cell (fun e=>um e.symm) (d5 j hj)
    have AU:x&&& (x-1)<x:=Nat.lt_of_le_of_lt Nat.and_le_right (by omega);clear Cc d5
    gi_wp2
    rw [xy x hx Fh];have LA:(W1.setCell ⟨b,o,none⟩ (.int .i64 ((x&&& (x-1):Nat):Int))).cell? ⟨b,o,none⟩=some (.int .i64 ((x&&& (x-1):Nat):Int)):=World.cell?_setCell_same' W1 _ _ (by rw [ul];rfl);refine ⟨⟨_,_,_,_,_,_,_,_,_,_,_,_,⟨i+1,x&&& (x-1),d6,by omega,EP,zBU ?_,GQ,LA,?_,rz⟩,rfl⟩,?_⟩
    ·rw [←List.drop_drop,uf.out];rfl
    ·rw [World.frozen?_setCell];exact uY
    ·unfold af;rw [LA,hc]
     show ((x&&& (x-1):Nat):Int).toNat<(x:Int).toNat
     omega
   ·gi_wp2
    refine bodyPost_ret (results_none rfl _ _ _) rfl ?_;exact ⟨⟨_,rfl⟩,.inr ⟨G,Gs⟩⟩
def BK (x:Int):List Int:=(EJ x.toNat).map fun (s:Nat)=>(s:Int)
theorem wC (x:Int):(BK x).map BV=(EJ x.toNat).map Rs:=by
 unfold BK;rw [List.map_map];rfl
theorem jd {x:Int} (hx:(0:Int)<=x/\ x<9223372036854775808) (w:World) (b o:Nat) (u:Value) (hg:GG.gi w) (GP:GG.ng<=b) (hb: ∃ cs t,w.heap[b]? =some (.cells cs t (0,0))) (hc:w.cell? ⟨b,o,none⟩=some u) (hr:u= .int .i64 x):
 IT Tryz.prog 110 #[.pointer (some ⟨b,o,none⟩)] ((BK x).map BV) (fun k=>k=b) (fun k=>k=1) w:=by
 rw [wC];obtain ⟨cs,t,hb⟩:=hb;have GP:2<=b:=GP;refine je x.toNat b o w (by omega) hg.1 ?_ ?_ (by omega)
 ·rw [hc,hr];congr 2;omega
 ·unfold World.frozen?;simp [hb]
end Go.Proofs.YtgkhhfnhacibcaaGreatDoor
namespace Go.Proofs.YtgkhhfnhacibcaaGreatDoor
open Go.RowKit
theorem ES.iterOf {P:Program} {Γ:A9} {f gf:Nat} {ds:List DV} {c:Nat -> DV} {d:DV} {encs:List (Array Value)} {Rd:Nat -> Prop} (h0:ES P Γ f ds [] (.fn gf 1 c) [some (.cells [d])] true) (hc:c 0= .ref 0 0) (FM:ds.all Gl=true)
 (eg: ∀ args W,(callFunc gf args).run P W= .ok (.enter gf args) W)
 (qV: ∀ (w:World) (b o:Nat) (u:Value),Γ.gi w -> Γ.ng<=b -> (∃ cs t,w.heap[b]? =some (.cells cs t (0,0))) -> w.cell? ⟨b,o,none⟩=some u -> AO (fun _=>False) w d [] u -> IT P gf #[.pointer (some ⟨b,o,none⟩)] encs (fun k=>k=b) Rd w)
 (hd:Nc d=true) (I7: ∀ b,Rd b -> b<Γ.ng) (h:DH):ES P Γ f ds h (.it h.length) (h++[some (.iter encs)]) true:=by
 refine ⟨h0.1,fun N ρ w args HR Ci=>?_⟩;refine (h0.2 (MS N h ρ) [] w args (N4 (fun b hb=>HR.lt2 hb) HR.gi) ⟨Ci.1,fun i hi=>?_⟩).mono ?_
 ·have hx:=Ng (ya.1 FM (ds.getD i .any) (by simp [hi]));exact AO.out _ (DR (fun b hb=>NC.1 hb) []) (hx _ _ _ _ (Ci.2 i hi))
 ·rintro e w' ⟨v,rfl,⟨⟨ρ',g1,g2,g3,g4⟩,g5⟩⟩;have hE:=g5 rfl;obtain ⟨p,hp,C0⟩:=g1.obj 0 _ rfl;have C0:Ak w' p 1 _:=C0;have hf: ∀ b,p.foot b -> w.heap.size<=b:=fun b hb=>(g3.grow b ⟨0,_,p,rfl,hp,hb⟩).resolve_left fun ⟨k,o',p',q1,_⟩=>by simp at q1
  obtain ⟨lb,hv,hl,Tw⟩:=g2;obtain ⟨u,hu,hr⟩:=Tw 0 (by omega);rw [hc] at hr;obtain ⟨p',BJ,HO⟩:=hr;have ep:p'=p:=yY (BJ.symm.trans hp);subst ep
  have uI:lb= #[.pointer (some ⟨p'.blk,p'.off,none⟩)]:=by
   apply Array.ext
   ·simp [hl]
   ·intro i h1 h2;have:i=0:=by omega
    subst this;have:=yR.1 hu;obtain ⟨_,e⟩:=this;rw [e,HO];rfl
  subst uI;obtain ⟨u2,c1,c2⟩:=Ak.cell C0 (j:=0) (by omega);have Eh:p'.foot=fun b=>b=p'.blk:=C0.1
  have GP:Γ.ng<=w.heap.size:=Γ.lo _ HR.gi;have Cp:=g1.cel 0 _ p' p'.blk rfl hp (by rw [Eh]);refine ⟨v,rfl,⟨⟨ρ++[{ p' with val:=v }],HR.snoc hE (fun b hb=>⟨hf b hb,(g1.cel 0 _ p' b rfl hp hb).2.2⟩) ?_,⟨{ p' with val:=v },by rw [←HR.len];simp,rfl⟩,BO.snoc HR hE hf,fun _ _ h=>EC h⟩,g5⟩⟩;obtain ⟨_,cs,t,DC,_⟩:=C0;refine ⟨gf,_,Rd,⟨hv,eg⟩,?_,fun b hb=>?_,fun b hb=>?_⟩
  ·show IT P gf _ encs p'.foot Rd w'
   rw [Eh];refine qV w' _ _ u2 g1.gi Cp.1 ⟨cs,t,DC⟩ (by simpa using c1) ?_;exact AO.out _ (DR (fun b hb=>hb.elim) []) (WE hd c2)
  ·have Cq:=I7 b hb;refine ⟨fun hm=>?_,yc (yc Cq GP) hE.size⟩;rcases hm with hm | hm
   ·have:=(HR.nlt b hm).2;omega
   ·rcases MO.snoc HR hm with hm | hm
    ·have:=HR.low hm;omega
    ·have:=hf b hm;omega
  ·obtain ⟨_,_,c,t,z,h4⟩:=g1.cel 0 _ p' b rfl hp hb;exact (yR.1 h4).1
end Go.Proofs.YtgkhhfnhacibcaaGreatDoor
namespace Go.Proofs.YtgkhhfnhacibcaaGreatDoor
open Go.RowKit
set_option maxRecDepth 100000
set_option maxHeartbeats 40000000
inductive UZ where
 | l1 (x7:Int)
def Q1 (n:Nat) (self:UZ -> Option Bool) (sets:List Int) (x7:Int):Option Bool:=
 bif (decide (x7<(sets.length:Int))) then
  if 0<=x7/\ x7<(sets.length:Int) then
   bif ((sets.getD ((x7).toNat) 0)==0) then
    some true
   else
    if AL (x7+1) then
     self (.l1 (x7+1))
    else none
  else none
 else
  some false
def gN (n:Nat) (self:UZ -> Option Bool) (sets:List Int):Option Bool:=
 self (.l1 0)
def Oa (sets:List Int):Nat -> UZ -> Option Bool
 | 0,_=>none
 | n+1,.l1 x7=>Q1 n (Oa sets n) sets x7
def Ua (n:Nat) (sets:List Int):Option Bool:=gN n (Oa sets n) sets
def wU (n B:Nat) (N:Yd 0) (sets:List Int) (r:Bool):UZ -> Prop
 | .l1 x7=>∀ m0:Nat,n<=m0 -> TW B N (FQ Tryz.f59 0 (.bool r) []) (A4 m0 (BF (Ab Tryz.f59) 0 [])) ⟨AM 14 [(5,.ints sets),(6,.i (sets.length:Int)),(7,.i x7)],[]⟩
theorem wV (B:Nat) (N:Yd 0) (sets:List Int):Al (Oa sets) (wU · B N sets):=ia (fun _=>rfl) fun n AH pt r h=>by
 cases pt
 case l1 x7=>
  intro m0 AC;refine rd AC fun m0 AC=>?_
  revert r;apply gO;exact bi 8 (gi (bi 12 (lE AF [2] []) (gw 13 (lG AF [] (AH _ _ · m0 AC))))) (lE AF [2] [])
theorem wS {n:Nat} {sets:List Int} {r:Bool} (h:Ua n sets=some r):EQ 59 [.ints sets] [] (.bool r) [] true:=by
 refine ot Tryz.func59 fun B N=>?_
 revert r;apply gO;exact lN AF [] ((wV B N sets n) _ _ · n Nat.le.refl)
def Wz (n:Nat) (pos:List Int):Option Bool:=
 (Ua n pos).bind fun y1=>
  some y1
def Nt (n:Nat) (pos:List Int):Option Bool:=Wz n pos
theorem df {n:Nat} {pos:List Int} {r:Bool} (h:Nt n pos=some r):EQ 27 [.ints pos] [] (.bool r) [] true:=by
 unfold Nt Wz at h;refine ot Tryz.func27 fun B N=>?_
 revert r;apply gO;exact cf wS [] fun _=>lE AF [2] []
inductive Sj where
 | l1 (x20:Int)
def Pk (n:Nat) (self:Sj -> Option Int) (q:AA) (pos:List Int) (x20:Int):Option Int:=
 bif (decide (x20<(pos.length:Int))) then
  if 0<=x20/\ x20<(pos.length:Int) then
   bif (decide ((pos.getD ((x20).toNat) 0)<0)) then
    some 250
   else
    if 0<=q.symbols/\ q.symbols<=(IntKind.i64.bits:Int) then
     bif (decide ((pos.getD ((x20).toNat) 0)>=(IntKind.i64.wrap (1*2 ^ (q.symbols).toNat)))) then
      some 250
     else
      if AL (x20+1) then
       self (.l1 (x20+1))
      else none
    else none
  else none
 else
  some 0
def b5 (n:Nat) (self:Sj -> Option Int) (q:AA) (pos:List Int):Option Int:=
 (valid n q).bind fun y1=>
  bif (y1 != 0) then
   some y1
  else
   bif ((pos.length:Int) != q.cells) then
    some 250
   else
    self (.l1 0)
def L4 (q:AA) (pos:List Int):Nat -> Sj -> Option Int
 | 0,_=>none
 | n+1,.l1 x20=>Pk n (L4 q pos n) q pos x20
def Sk (n:Nat) (q:AA) (pos:List Int):Option Int:=b5 n (L4 q pos n) q pos
def oM (n B:Nat) (N:Yd 0) (q:AA) (pos:List Int) (r:Int):Sj -> Prop
 | .l1 x20=>∀ m0:Nat,n<=m0 -> TW B N (FQ Tryz.f37 0 (.i r) []) (A4 m0 (BF (Ab Tryz.f37) 0 [])) ⟨AM 34 [(2,.ref 0 0),(18,.ints pos),(19,.i (pos.length:Int)),(20,.i x20)],[some (.cells (AE q))]⟩
theorem oN (B:Nat) (N:Yd 0) (q:AA) (pos:List Int):Al (L4 q pos) (oM · B N q pos):=ia (fun _=>rfl) fun n AH pt r h=>by
 cases pt
 case l1 x20=>
  intro m0 AC;refine rd AC fun m0 AC=>?_
  revert r;apply gO;exact bi 21 (gi (bi 25 (lE AF [4] []) (gi (bi 31 (lE AF [4] []) (gw 33 (lG AF [0] (AH _ _ · m0 AC))))))) (lE AF [4] [])
theorem oK {n:Nat} {q:AA} {pos:List Int} {r:Int} (h:Sk n q pos=some r):EQ 37 [.agg 5 (L1 (AE q)),.ints pos] [] (.i r) [] true:=by
 refine ot Tryz.func37 fun B N=>?_
 revert r;apply gO;exact cf VD [some (.cells (AE q))] fun _=>bi 11 (lE AF [4] []) (bi 17 (lE AF [4] []) (lN AF [0] ((oN B N q pos n) _ _ · n Nat.le.refl)))
def gW (n:Nat) (s_:List Int):Option ((List Int)):=
 if 0<s_.length/\ ((True)/\ (0=0/\ 0=([]:List Int).length)/\ ([]:List Int).length+s_.length<=Ax) then
  if ([]:List Int).length+s_.length=(([]:List Int)++s_).length then
   some (([]:List Int)++s_)
  else none
 else none
def Um (n:Nat) (s_:List Int):Option ((List Int)):=gW n s_
theorem xC {n:Nat} {s_:List Int} {r:(List Int)} (h:Um n s_=some r):EQ 77 [.ints s_] [] (.msl 0 1 0 r.length) [some (.ints r)] true:=by
 refine ot Tryz.func77 fun B N=>?_
 revert r;apply gO;exact gc (gi (gi (gn fun g2=>lF fun p=>el AF [2] [1] p [] H0 [.msl 0 1 0 (([]:List Int).length+s_.length)] (AS.mslN g2))))
def Yo (n:Nat) (s_:List Bool):Option ((List Bool)):=
 if 0<s_.length/\ ((True)/\ (0=0/\ 0=([]:List Bool).length)/\ ([]:List Bool).length+s_.length<=Ax) then
  if ([]:List Bool).length+s_.length=(([]:List Bool)++s_).length then
   some (([]:List Bool)++s_)
  else none
 else none
def M1 (n:Nat) (s_:List Bool):Option ((List Bool)):=Yo n s_
theorem gX {n:Nat} {s_:List Bool} {r:(List Bool)} (h:M1 n s_=some r):EQ 122 [.bools s_] [] (.msl 0 1 0 r.length) [some (.bools r)] true:=by
 refine ot Tryz.func122 fun B N=>?_
 revert r;apply gO;exact gc (gi (gi (gn fun g2=>lF fun p=>el AF [2] [1] p [] H0 [.msl 0 1 0 (([]:List Bool).length+s_.length)] (AS.mslN g2))))
def Yp (n:Nat) (q:AA) (i:Int) (pos:List Int):Option Int:=
 (MJ n q i).bind fun y1=>
  bif (y1.2 != 0) then
   some y1.2
  else
   (Sk n q pos).bind fun y2=>
    some y2
def M2 (n:Nat) (q:AA) (i:Int) (pos:List Int):Option Int:=Yp n q i pos
theorem gY {n:Nat} {q:AA} {i:Int} {pos:List Int} {r:Int} (h:M2 n q i pos=some r):EQ 43 [.agg 5 (L1 (AE q)),.i i,.ints pos] [] (.i r) [] true:=by
 unfold M2 Yp at h;refine ot Tryz.func43 fun B N=>?_
 revert r;apply gO;exact cf Wp [some (.cells (AE q))] fun _=>bi 16 (lE AF [6] []) (cf oK [some (.cells (AE q))] fun _=>lE AF [6] [])
theorem lO:A0 (BG Tryz.f54 6) [] (List.range 9) []:=by unfold A0;kernel_rfl
def PC:Bh:=fun i=>match i with
 | 6=>.ord [] (List.range 9) []
 | _=>.no
inductive SE where
 | l1 (x5:Int)
def k8 (n:Nat) (self:SE -> Option Bool) (a b_:List (Int×Int)) (x5:Int):Option Bool:=
 bif (decide (x5<(a.length:Int))) then
  if (0<=x5/\ x5<(a.length:Int))/\ (0<=x5/\ x5<(b_.length:Int)) then
   bif (!((((a.getD ((x5).toNat) default).1)==((b_.getD ((x5).toNat) default).1))&&((((a.getD ((x5).toNat) default).2)==((b_.getD ((x5).toNat) default).2))&&true))) then
    some false
   else
    if AL (x5+1) then
     self (.l1 (x5+1))
    else none
  else none
 else
  some true
def k9 (n:Nat) (self:SE -> Option Bool) (a b_:List (Int×Int)):Option Bool:=
 bif ((a.length:Int) != (b_.length:Int)) then
  some false
 else
  self (.l1 0)
def Ve (a b_:List (Int×Int)):Nat -> SE -> Option Bool
 | 0,_=>none
 | n+1,.l1 x5=>k8 n (Ve a b_ n) a b_ x5
def ao (n:Nat) (a b_:List (Int×Int)):Option Bool:=k9 n (Ve a b_ n) a b_
def lA (n B:Nat) (N:Yd 0) (a b_:List (Int×Int)) (r:Bool):SE -> Prop
 | .l1 x5=>∀ m0:Nat,n<=m0 -> TW B N (FQ Tryz.f54 0 (.bool r) []) (A4 m0 (BF (Ab Tryz.f54) 0 [])) ⟨AM 26 [(0,.sl 2 a.length (Aq DI a)),(1,.sl 2 b_.length (Aq DI b_)),(5,.i x5)],[]⟩
theorem lB (B:Nat) (N:Yd 0) (a b_:List (Int×Int)):Al (Ve a b_) (lA · B N a b_):=ia (fun _=>rfl) fun n AH pt r h=>by
 cases pt
 case l1 x5=>
  intro m0 AC;refine rd AC fun m0 AC=>?_
  revert r;apply gO;exact bi 14 (jg lO (gc (gi (gi (bi 25 (lE PC [4] []) (gw 16 (lG PC [] (AH _ _ · m0 AC)))))))) (lE PC [4] [])
theorem k7 {n:Nat} {a b_:List (Int×Int)} {r:Bool} (h:ao n a b_=some r):EQ 54 [.sl 2 a.length (Aq DI a),.sl 2 b_.length (Aq DI b_)] [] (.bool r) [] true:=by
 refine ot Tryz.func54 fun B N=>?_
 revert r;apply gO;exact bi 10 (lE PC [4] []) (lN PC [] ((lB B N a b_ n) _ _ · n Nat.le.refl))
inductive T8 where
 | l1 (BX:Int)
def Qg (n:Nat) (self:T8 -> Option Int) (g_:List (List Int)) (sets:List (List Bool)) (BX:Int):Option Int:=
 bif (decide (BX<(sets.length:Int))) then
  if 0<=BX/\ BX<(sets.length:Int) then
   bif ((((sets.getD ((BX).toNat) []).length:Nat):Int) != (g_.length:Int)) then
    some 1
   else
    if AL (BX+1) then
     self (.l1 (BX+1))
    else none
  else none
 else
  some 0
def fV (n:Nat) (self:T8 -> Option Int) (g_:List (List Int)) (sets:List (List Bool)):Option Int:=
 (Qi n g_).bind fun y1=>
  bif (y1 != 0) then
   some y1
  else
   self (.l1 0)
def OK (g_:List (List Int)) (sets:List (List Bool)):Nat -> T8 -> Option Int
 | 0,_=>none
 | n+1,.l1 BX=>Qg n (OK g_ sets n) g_ sets BX
def JA (n:Nat) (g_:List (List Int)) (sets:List (List Bool)):Option Int:=fV n (OK g_ sets n) g_ sets
def vI (n B:Nat) (N:Yd 0) (g_:List (List Int)) (sets:List (List Bool)) (r:Int):T8 -> Prop
 | .l1 BX=>∀ m0:Nat,n<=m0 -> TW B N (FQ Tryz.f124 0 (.i r) []) (A4 m0 (BF (Ab Tryz.f124) 0 [])) ⟨AM 25 [(0,.sl 1 g_.length (Aq At g_)),(13,.sl 1 sets.length (Aq Of sets)),(14,.i (sets.length:Int)),(15,.i BX)],[]⟩
theorem vJ (B:Nat) (N:Yd 0) (g_:List (List Int)) (sets:List (List Bool)):Al (OK g_ sets) (vI · B N g_ sets):=ia (fun _=>rfl) fun n AH pt r h=>by
 cases pt
 case l1 BX=>
  intro m0 AC;refine rd AC fun m0 AC=>?_
  revert r;apply gO;exact bi 16 (gi (bi 23 (lE AF [4] []) (gw 24 (lG AF [] (AH _ _ · m0 AC))))) (lE AF [4] [])
theorem T6 {n:Nat} {g_:List (List Int)} {sets:List (List Bool)} {r:Int} (h:JA n g_ sets=some r):EQ 124 [.sl 1 g_.length (Aq At g_),.sl 1 sets.length (Aq Of sets)] [] (.i r) [] true:=by
 refine ot Tryz.func124 fun B N=>?_
 revert r;apply gO;exact cf fa [] fun _=>bi 11 (lE AF [4] []) (lN AF [] ((vJ B N g_ sets n) _ _ · n Nat.le.refl))
end Go.Proofs.YtgkhhfnhacibcaaGreatDoor
namespace Go.Proofs.YtgkhhfnhacibcaaGreatDoor
open Go.RowKit
set_option maxRecDepth 100000
set_option maxHeartbeats 40000000
theorem mE:A0 (BG Tryz.f99 0) [] (List.range 18) [18]:=by unfold A0;kernel_rfl
def kZ:Bh:=fun i=>match i with
 | 0=>.ord [] (List.range 18) [18]
 | _=>.no
def Wl (n:Nat) (cell ss:Int) (c:AB) (q:AA) (pos:List Int) (ln:Nat) (lost:List Int):Option ((List Int)):=
 if (0<=cell/\ cell<(ln:Int))/\ 0+((cell).toNat)<lost.length/\ (0<=cell/\ cell<(pos.length:Int)) then
  some (lost.set (0+((cell).toNat)) (bits .or .i64 (lost.getD (0+((cell).toNat)) 0) (bits .and .i64 (pos.getD ((cell).toNat) 0) ss)))
 else none
def DA (n:Nat) (cell ss:Int) (c:AB) (q:AA) (pos:List Int) (ln:Nat) (lost:List Int):Option ((List Int)):=Wl n cell ss c q pos ln lost
theorem Fe {n:Nat} {cell ss:Int} {c:AB} {q:AA} {pos:List Int} {ln:Nat} {lost:List Int} {r:(List Int)} (h:DA n cell ss c q pos ln lost=some r):EQ 99 [.ref 0 0,.i cell,.i ss] [some (.cells (AG c++AE q++[.ints pos,.msl 1 1 0 ln])),some (.ints lost)] (.tup 0 (fun j=>([]:List DV).getD j .any)) [some (.cells (AG c++AE q++[.ints pos,.msl 1 1 0 ln])),some (.ints r)] false:=by
 refine ot Tryz.func99 fun B N=>?_
 revert r;apply gO;exact jg mE (gc (gn fun g0=>jg g0 (gc (gn fun g1=>jg g1 (gi (jg g0 (jg g1 (lE kZ [] [0,1]))))))))
theorem lr:A0 (BG Tryz.f100 0) [] (List.range 22) [22]:=by unfold A0;kernel_rfl
def kW:Bh:=fun i=>match i with
 | 0=>.ord [] (List.range 22) [22]
 | _=>.no
def WR (n:Nat) (cell:Int) (c:AB) (q:AA) (pos:List Int) (ln:Nat) (lost:List Int):Option ((List Int)):=
 if (0<=cell/\ cell<(ln:Int))/\ 0+((cell).toNat)<lost.length/\ (0<=cell/\ cell<(pos.length:Int)) then
  some (lost.set (0+((cell).toNat)) (bits .or .i64 (lost.getD (0+((cell).toNat)) 0) (bits .andNot .i64 (pos.getD ((cell).toNat) 0) c.set)))
 else none
def Fx (n:Nat) (cell:Int) (c:AB) (q:AA) (pos:List Int) (ln:Nat) (lost:List Int):Option ((List Int)):=WR n cell c q pos ln lost
theorem Kr {n:Nat} {cell:Int} {c:AB} {q:AA} {pos:List Int} {ln:Nat} {lost:List Int} {r:(List Int)} (h:Fx n cell c q pos ln lost=some r):EQ 100 [.ref 0 0,.i cell] [some (.cells (AG c++AE q++[.ints pos,.msl 1 1 0 ln])),some (.ints lost)] (.tup 0 (fun j=>([]:List DV).getD j .any)) [some (.cells (AG c++AE q++[.ints pos,.msl 1 1 0 ln])),some (.ints r)] false:=by
 refine ot Tryz.func100 fun B N=>?_
 revert r;apply gO;exact jg lr (gc (gn fun g0=>jg g0 (gc (gn fun g1=>jg g1 (gi (jg g0 (jg g1 (lE kW [] [0,1]))))))))
inductive Q0 where
 | l1 (x3 x4 BD:Int)
 | l2 (x3 x4 B5:Int) (o1:List Int)
def Qz (n:Nat) (self:Q0 -> Option (Bool×(List Int))) (c:AB) (q:AA) (pos:List Int) (ln:Nat) (lost:List Int) (x3 x4 BD:Int):Option (Bool×(List Int)):=
 bif (decide (BD<(c.cells.length:Int))) then
  if (0<=BD/\ BD<(c.cells.length:Int))/\ (0<=(c.cells.getD ((BD).toNat) 0)/\ (c.cells.getD ((BD).toNat) 0)<(pos.length:Int))/\ AL ((pos.getD ((c.cells.getD ((BD).toNat) 0).toNat) 0)-1) then
   bif ((bits .and .i64 (pos.getD ((c.cells.getD ((BD).toNat) 0).toNat) 0) ((pos.getD ((c.cells.getD ((BD).toNat) 0).toNat) 0)-1))==0) then
    if AL (BD+1) then
     self (.l1 (bits .or .i64 x3 (pos.getD ((c.cells.getD ((BD).toNat) 0).toNat) 0)) (bits .or .i64 x4 (bits .and .i64 x3 (pos.getD ((c.cells.getD ((BD).toNat) 0).toNat) 0))) (BD+1))
    else none
   else
    if AL (BD+1) then
     self (.l1 x3 x4 (BD+1))
    else none
  else none
 else
  self (.l2 x3 x4 0 lost)
def Qy (n:Nat) (self:Q0 -> Option (Bool×(List Int))) (c:AB) (q:AA) (pos:List Int) (ln:Nat) (lost:List Int) (x3 x4 B5:Int) (o1:List Int):Option (Bool×(List Int)):=
 bif (decide (B5<(c.cells.length:Int))) then
  if (0<=B5/\ B5<(c.cells.length:Int))/\ (0<=(c.cells.getD ((B5).toNat) 0)/\ (c.cells.getD ((B5).toNat) 0)<(pos.length:Int))/\ AL ((pos.getD ((c.cells.getD ((B5).toNat) 0).toNat) 0)-1) then
   bif ((bits .and .i64 (pos.getD ((c.cells.getD ((B5).toNat) 0).toNat) 0) ((pos.getD ((c.cells.getD ((B5).toNat) 0).toNat) 0)-1))==0) then
    (DA n (c.cells.getD ((B5).toNat) 0) (bits .or .i64 (bits .andNot .i64 x3 (pos.getD ((c.cells.getD ((B5).toNat) 0).toNat) 0)) x4) c q pos ln o1).bind fun y1=>
     if AL (B5+1) then
      self (.l2 x3 x4 (B5+1) y1)
     else none
   else
    (DA n (c.cells.getD ((B5).toNat) 0) x3 c q pos ln o1).bind fun y1=>
     if AL (B5+1) then
      self (.l2 x3 x4 (B5+1) y1)
     else none
  else none
 else
  some (true,o1)
def gM (n:Nat) (self:Q0 -> Option (Bool×(List Int))) (c:AB) (q:AA) (pos:List Int) (ln:Nat) (lost:List Int):Option (Bool×(List Int)):=
 self (.l1 0 0 0)
def JD (c:AB) (q:AA) (pos:List Int) (ln:Nat) (lost:List Int):Nat -> Q0 -> Option (Bool×(List Int))
 | 0,_=>none
 | n+1,.l1 x3 x4 BD=>Qz n (JD c q pos ln lost n) c q pos ln lost x3 x4 BD
 | n+1,.l2 x3 x4 B5 o1=>Qy n (JD c q pos ln lost n) c q pos ln lost x3 x4 B5 o1
def OZ (n:Nat) (c:AB) (q:AA) (pos:List Int) (ln:Nat) (lost:List Int):Option (Bool×(List Int)):=gM n (JD c q pos ln lost n) c q pos ln lost
def wP (n B:Nat) (N:Yd 2) (c:AB) (q:AA) (pos:List Int) (ln:Nat) (lost:List Int) (r:Bool×(List Int)):Q0 -> Prop
 | .l1 x3 x4 BD=>∀ m0:Nat,n<=m0 -> TW B N (FQ Tryz.f68 2 (.bool r.1) [some (.cells (AG c++AE q++[.ints pos,.msl 1 1 0 ln])),some (.ints r.2)]) (A4 m0 (BF (Ab Tryz.f68) 0 [])) ⟨AM 77 [(0,.ref 0 0),(3,.i x3),(4,.i x4),(15,.ints c.cells),(16,.i (c.cells.length:Int)),(17,.i BD)],[some (.cells (AG c++AE q++[.ints pos,.msl 1 1 0 ln])),some (.ints lost)]⟩
 | .l2 x3 x4 B5 o1=>∀ m0:Nat,n<=m0 -> TW B N (FQ Tryz.f68 2 (.bool r.1) [some (.cells (AG c++AE q++[.ints pos,.msl 1 1 0 ln])),some (.ints r.2)]) (A4 m0 (BF (Ab Tryz.f68) 2 [])) ⟨AM 77 [(0,.ref 0 0),(3,.i x3),(4,.i x4),(46,.ints c.cells),(47,.i (c.cells.length:Int)),(48,.i B5)],[some (.cells (AG c++AE q++[.ints pos,.msl 1 1 0 ln])),some (.ints o1)]⟩
theorem wQ (B:Nat) (N:Yd 2) (c:AB) (q:AA) (pos:List Int) (ln:Nat) (lost:List Int):Al (JD c q pos ln lost) (wP · B N c q pos ln lost):=ia (fun _=>rfl) fun n AH pt r h=>by
 cases pt
 case l1 x3 x4 BD=>
  intro m0 AC;refine rd AC fun m0 AC=>?_
  revert r;apply gO;exact bi 18 (gc (gi (gc (gi (gw 30 (bi 32 (gw 41 (lG AF [0,1] (AH _ _ · m0 AC))) (gw 41 (lG AF [0,1] (AH _ _ · m0 AC))))))))) (lN AF [0,1] (AH _ _ · n Nat.le.refl))
 case l2 x3 x4 B5 o1=>
  intro m0 AC;refine rd AC fun m0 AC=>?_
  revert r;apply gO;exact bi 49 (gc (gi (gc (gi (gw 61 (bi 63 (ce Fe [0,1] [some (.cells (AG c++AE q++[.ints pos,.msl 1 1 0 ln])),some (.ints o1)] fun _=>gw 76 (lG AF [0,1] (AH _ _ · m0 AC))) (ce Fe [0,1] [some (.cells (AG c++AE q++[.ints pos,.msl 1 1 0 ln])),some (.ints o1)] fun _=>gw 76 (lG AF [0,1] (AH _ _ · m0 AC))))))))) (lE AF [2] [0,1])
theorem wO {n:Nat} {c:AB} {q:AA} {pos:List Int} {ln:Nat} {lost:List Int} {r:Bool×(List Int)} (h:OZ n c q pos ln lost=some r):EQ 68 [.ref 0 0] [some (.cells (AG c++AE q++[.ints pos,.msl 1 1 0 ln])),some (.ints lost)] (.bool r.1) [some (.cells (AG c++AE q++[.ints pos,.msl 1 1 0 ln])),some (.ints r.2)] false:=by
 refine ot Tryz.func68 fun B N=>?_
 revert r;apply gO;exact lN AF [0,1] ((wQ B N c q pos ln lost n) _ _ · n Nat.le.refl)
theorem mN:A0 (BG Tryz.f69 5) [] (List.range 15) []:=by unfold A0;kernel_rfl
theorem mM:A0 (BG Tryz.f69 8) [] (List.range 15) []:=by unfold A0;kernel_rfl
theorem mO:A0 (BG Tryz.f69 16) [] (List.range 23) []:=by unfold A0;kernel_rfl
theorem Vg:A0 (BG Tryz.f69 18) [] (List.range 23) []:=by unfold A0;kernel_rfl
def FD:Bh:=fun i=>match i with
 | 5=>.ord [] (List.range 15) []
 | 8=>.ord [] (List.range 15) []
 | 16=>.ord [] (List.range 23) []
 | 18=>.ord [] (List.range 23) []
 | _=>.no
inductive Q6 where
 | l1 (x3 x4 BX:Int)
 | l2 (x3 x4 B9:Int) (o1:List Int)
def Q5 (n:Nat) (self:Q6 -> Option (Bool×(List Int))) (c:AB) (q:AA) (pos:List Int) (ln:Nat) (lost:List Int) (x3 x4 BX:Int):Option (Bool×(List Int)):=
 bif (decide (BX<(c.cells.length:Int))) then
  if (0<=BX/\ BX<(c.cells.length:Int))/\ (0<=(c.cells.getD ((BX).toNat) 0)/\ (c.cells.getD ((BX).toNat) 0)<(pos.length:Int)) then
   bif ((bits .andNot .i64 (pos.getD ((c.cells.getD ((BX).toNat) 0).toNat) 0) c.set)==0) then
    if AL (x3+1)/\ AL (x4+1)/\ AL (BX+1) then
     self (.l1 (x3+1) (x4+1) (BX+1))
    else none
   else
    bif ((bits .and .i64 (pos.getD ((c.cells.getD ((BX).toNat) 0).toNat) 0) c.set) != 0) then
     if AL (x4+1)/\ AL (BX+1) then
      self (.l1 x3 (x4+1) (BX+1))
     else none
    else
     if AL (BX+1) then
      self (.l1 x3 x4 (BX+1))
     else none
  else none
 else
  bif (decide (x3>c.hi)) then
   some (false,lost)
  else
   bif (decide (x4<c.lo)) then
    some (false,lost)
   else
    self (.l2 x3 x4 0 lost)
def Q4 (n:Nat) (self:Q6 -> Option (Bool×(List Int))) (c:AB) (q:AA) (pos:List Int) (ln:Nat) (lost:List Int) (x3 x4 B9:Int) (o1:List Int):Option (Bool×(List Int)):=
 bif (decide (B9<(c.cells.length:Int))) then
  if 0<=B9/\ B9<(c.cells.length:Int) then
   bif (x3==c.hi) then
    if 0<=(c.cells.getD ((B9).toNat) 0)/\ (c.cells.getD ((B9).toNat) 0)<(pos.length:Int) then
     bif ((bits .andNot .i64 (pos.getD ((c.cells.getD ((B9).toNat) 0).toNat) 0) c.set) != 0) then
      (DA n (c.cells.getD ((B9).toNat) 0) c.set c q pos ln o1).bind fun y1=>
       bif (x4==c.lo) then
        bif ((bits .and .i64 (pos.getD ((c.cells.getD ((B9).toNat) 0).toNat) 0) c.set) != 0) then
         (Fx n (c.cells.getD ((B9).toNat) 0) c q pos ln y1).bind fun y2=>
          if AL (B9+1) then
           self (.l2 x3 x4 (B9+1) y2)
          else none
        else
         if AL (B9+1) then
          self (.l2 x3 x4 (B9+1) y1)
         else none
       else
        if AL (B9+1) then
         self (.l2 x3 x4 (B9+1) y1)
        else none
     else
      bif (x4==c.lo) then
       bif ((bits .and .i64 (pos.getD ((c.cells.getD ((B9).toNat) 0).toNat) 0) c.set) != 0) then
        (Fx n (c.cells.getD ((B9).toNat) 0) c q pos ln o1).bind fun y1=>
         if AL (B9+1) then
          self (.l2 x3 x4 (B9+1) y1)
         else none
       else
        if AL (B9+1) then
         self (.l2 x3 x4 (B9+1) o1)
        else none
      else
       if AL (B9+1) then
        self (.l2 x3 x4 (B9+1) o1)
       else none
    else none
   else
    bif (x4==c.lo) then
     if 0<=(c.cells.getD ((B9).toNat) 0)/\ (c.cells.getD ((B9).toNat) 0)<(pos.length:Int) then
      bif ((bits .and .i64 (pos.getD ((c.cells.getD ((B9).toNat) 0).toNat) 0) c.set) != 0) then
       (Fx n (c.cells.getD ((B9).toNat) 0) c q pos ln o1).bind fun y1=>
        if AL (B9+1) then
         self (.l2 x3 x4 (B9+1) y1)
        else none
      else
       if AL (B9+1) then
        self (.l2 x3 x4 (B9+1) o1)
       else none
     else none
    else
     if AL (B9+1) then
      self (.l2 x3 x4 (B9+1) o1)
     else none
  else none
 else
  some (true,o1)
def wc (n:Nat) (self:Q6 -> Option (Bool×(List Int))) (c:AB) (q:AA) (pos:List Int) (ln:Nat) (lost:List Int):Option (Bool×(List Int)):=
 self (.l1 0 0 0)
def IL (c:AB) (q:AA) (pos:List Int) (ln:Nat) (lost:List Int):Nat -> Q6 -> Option (Bool×(List Int))
 | 0,_=>none
 | n+1,.l1 x3 x4 BX=>Q5 n (IL c q pos ln lost n) c q pos ln lost x3 x4 BX
 | n+1,.l2 x3 x4 B9 o1=>Q4 n (IL c q pos ln lost n) c q pos ln lost x3 x4 B9 o1
def Ob (n:Nat) (c:AB) (q:AA) (pos:List Int) (ln:Nat) (lost:List Int):Option (Bool×(List Int)):=wc n (IL c q pos ln lost n) c q pos ln lost
def wd (n B:Nat) (N:Yd 2) (c:AB) (q:AA) (pos:List Int) (ln:Nat) (lost:List Int) (r:Bool×(List Int)):Q6 -> Prop
 | .l1 x3 x4 BX=>∀ m0:Nat,n<=m0 -> TW B N (FQ Tryz.f69 2 (.bool r.1) [some (.cells (AG c++AE q++[.ints pos,.msl 1 1 0 ln])),some (.ints r.2)]) (A4 m0 (BF (Ab Tryz.f69) 0 [])) ⟨AM 140 [(0,.ref 0 0),(3,.i x3),(4,.i x4),(13,.ints c.cells),(14,.i (c.cells.length:Int)),(15,.i BX)],[some (.cells (AG c++AE q++[.ints pos,.msl 1 1 0 ln])),some (.ints lost)]⟩
 | .l2 x3 x4 B9 o1=>∀ m0:Nat,n<=m0 -> TW B N (FQ Tryz.f69 2 (.bool r.1) [some (.cells (AG c++AE q++[.ints pos,.msl 1 1 0 ln])),some (.ints r.2)]) (A4 m0 (BF (Ab Tryz.f69) 3 [])) ⟨AM 140 [(0,.ref 0 0),(3,.i x3),(4,.i x4),(76,.ints c.cells),(77,.i (c.cells.length:Int)),(78,.i B9)],[some (.cells (AG c++AE q++[.ints pos,.msl 1 1 0 ln])),some (.ints o1)]⟩
theorem we (B:Nat) (N:Yd 2) (c:AB) (q:AA) (pos:List Int) (ln:Nat) (lost:List Int):Al (IL c q pos ln lost) (wd · B N c q pos ln lost):=ia (fun _=>rfl) fun n AH pt r h=>by
 cases pt
 case l1 x3 x4 BX=>
  intro m0 AC;refine rd AC fun m0 AC=>?_
  revert r;apply gO;exact bi 16 (gc (gi (jg mN (gn fun g1=>jg g1 (bi 33 (gc (gw 35 (gc (gw 37 (gw 55 (lG FD [0,1] (AH _ _ · m0 AC))))))) (jg mM (jg g1 (bi 52 (gc (gw 54 (gw 55 (lG FD [0,1] (AH _ _ · m0 AC))))) (gw 55 (lG FD [0,1] (AH _ _ · m0 AC))))))))))) (bi 62 (lE FD [2] [0,1]) (bi 70 (lE FD [2] [0,1]) (lN FD [0,1] (AH _ _ · n Nat.le.refl))))
 case l2 x3 x4 B9 o1=>
  intro m0 AC;refine rd AC fun m0 AC=>?_
  revert r;apply gO;exact bi 79 (gi (jg mO (bi 88 (gn fun g1=>jg g1 (bi 103 (ce Fe [0,1] [some (.cells (AG c++AE q++[.ints pos,.msl 1 1 0 ln])),some (.ints o1)] fun y1=>jg Vg (bi 119 (jg g1 (bi 134 (ce Kr [0,1] [some (.cells (AG c++AE q++[.ints pos,.msl 1 1 0 ln])),some (.ints y1)] fun _=>gw 139 (lG FD [0,1] (AH _ _ · m0 AC))) (gw 139 (lG FD [0,1] (AH _ _ · m0 AC))))) (gw 139 (lG FD [0,1] (AH _ _ · m0 AC))))) (jg Vg (bi 119 (jg g1 (bi 134 (ce Kr [0,1] [some (.cells (AG c++AE q++[.ints pos,.msl 1 1 0 ln])),some (.ints o1)] fun _=>gw 139 (lG FD [0,1] (AH _ _ · m0 AC))) (gw 139 (lG FD [0,1] (AH _ _ · m0 AC))))) (gw 139 (lG FD [0,1] (AH _ _ · m0 AC))))))) (jg Vg (bi 119 (gi (bi 134 (ce Kr [0,1] [some (.cells (AG c++AE q++[.ints pos,.msl 1 1 0 ln])),some (.ints o1)] fun _=>gw 139 (lG FD [0,1] (AH _ _ · m0 AC))) (gw 139 (lG FD [0,1] (AH _ _ · m0 AC))))) (gw 139 (lG FD [0,1] (AH _ _ · m0 AC)))))))) (lE FD [2] [0,1])
theorem wb {n:Nat} {c:AB} {q:AA} {pos:List Int} {ln:Nat} {lost:List Int} {r:Bool×(List Int)} (h:Ob n c q pos ln lost=some r):EQ 69 [.ref 0 0] [some (.cells (AG c++AE q++[.ints pos,.msl 1 1 0 ln])),some (.ints lost)] (.bool r.1) [some (.cells (AG c++AE q++[.ints pos,.msl 1 1 0 ln])),some (.ints r.2)] false:=by
 refine ot Tryz.func69 fun B N=>?_
 revert r;apply gO;exact lN FD [0,1] ((we B N c q pos ln lost n) _ _ · n Nat.le.refl)
end Go.Proofs.YtgkhhfnhacibcaaGreatDoor
namespace Go.Proofs.YtgkhhfnhacibcaaGreatDoor
open Go.RowKit
set_option maxRecDepth 100000
set_option maxHeartbeats 40000000
def jh (n:Nat) (Am:Int):Option Unit:=
 some ()
def ji (n:Nat) (Am:Int):Option Unit:=jh n Am
theorem jf {n:Nat} (Am:Int) {r:Unit} (h:ji n Am=some r):EQ 79 [.i Am] [] (.fn 110 1 (L1 [.ref 0 0])) [some (.cells [.i Am])] true:=by
 refine ot Tryz.func79 fun B N=>?_
 revert r;apply gO;exact lE AF [2] [0]
theorem Hl {x:Int} (hx:0<=x/\ x<9223372036854775808) (h:DH):EQ 79 [.i x] h (.it h.length) (h++[some (.iter ((BK x).map BV))]) true:=by
 refine ES.iterOf (jf (n:=0) x (r:=()) rfl) rfl (by kernel_rfl) (fun args W=>?_) (fun w b o u hg GP hb hc hr=>jd hx w b o u hg GP hb hc hr) rfl (fun b hb=>?_) h
 ·exact gA Tryz.func110 (by kernel_rfl) (by kernel_rfl) args W
 ·rw [hb];decide
def aG:ST:=.rd 0 (.rd 1 (.rd 2 (.rd 3 (.rd 4 (.rd 5 (.rd 6 (.rd 7 (.rd 8 (.rd 9 (.rd 10 (.rd 11 (.rd 12 (.rd 13 (.rd 14 (.rd 15 (.rd 16 (.rd 17 (.rd 18 (.rd 19 (.ef 20 (.ef 21 (.fin [] [4,5]) (.no)) (.no)))))))))))))))))))))
theorem mL:CF (BG Tryz.f101 4) [20] aG:=by unfold CF;kernel_rfl
def aF:ST:=.rd 0 (.rd 1 (.ef 2 (.ef 3 (.fin [] [4,5]) (.no)) (.no)))
theorem mK:CF (BG Tryz.f101 5) [2] aF:=by unfold CF;kernel_rfl
def SB:Bh:=fun i=>match i with
 | 4=>.tre [20] aG
 | 5=>.tre [2] aF
 | _=>.no
def tp (c:AB) (q:AA) (pos:List Int) (ln:Nat) (lost:List Int):DH:=[some (.cells (AG c++AE q++[.ints pos,.msl 1 1 0 ln])),some (.ints lost),some (.cells [.ref 0 0]),some (.cells [.i 100]),some (.cells [.i (-1)])]
def tn (c:AB) (q:AA) (pos:List Int) (ln:Nat) (lost:List Int) (ss:Int):DH:=[some (.cells (AG c++AE q++[.ints pos,.msl 1 1 0 ln])),some (.ints lost),some (.cells [.ref 0 0]),some (.cells [.i 100]),some (.cells [.i (-1)]),some (.iter ((BK ss).map BV))]
def Zw (c:AB) (q:AA) (pos:List Int) (ln:Nat) (lost:List Int) (Cu Ct:Int):St:=⟨(AM 32 [(4,.ref 3 0),(5,.ref 4 0)]),([some (.cells (AG c++AE q++[.ints pos,.msl 1 1 0 ln])),some (.ints lost),some (.cells [.ref 0 0]),some (.cells [.i Cu]),some (.cells [.i Ct]),none]:DH)⟩
def tm (c:AB) (q:AA) (pos:List Int) (ln:Nat) (lost:List Int) (FZ FY:Int):DH:=[some (.cells (AG c++AE q++[.ints pos,.msl 1 1 0 ln])),some (.ints lost),some (.cells [.ref 0 0]),some (.cells [.i FZ]),some (.cells [.i FY]),none]
def Zv (c:AB) (q:AA) (pos:List Int) (ln:Nat) (lost:List Int) (e8 FZ FY:Int):St:=⟨(AM 32 [(4,.ref 3 0),(5,.ref 4 0)]),([some (.cells (AG c++AE q++[.ints pos,.msl 1 1 0 ln])),some (.ints lost),some (.cells [.ref 0 0]),some (.cells [.i (if (q.values.getD ((e8).toNat) 0)<FZ then (q.values.getD ((e8).toNat) 0) else FZ)]),some (.cells [.i (if (q.values.getD ((e8).toNat) 0)>FY then (q.values.getD ((e8).toNat) 0) else FY)]),none]:DH)⟩
inductive LN where
 | s0 (FZ FY:Int)
def gG (c:AB) (q:AA) (pos:List Int) (ln:Nat) (lost:List Int):LN -> DH
 | .s0 FZ FY=>[some (.cells (AG c++AE q++[.ints pos,.msl 1 1 0 ln])),some (.ints lost),some (.cells [.ref 0 0]),some (.cells [.i FZ]),some (.cells [.i FY]),none]
def gF (n:Nat) (c:AB) (q:AA) (pos:List Int) (ln:Nat) (lost:List Int) (e8:Int) (FZ FY:Int):Option LN:=
 if 0<=e8/\ e8<(q.values.length:Int) then
  some (.s0 (if (q.values.getD ((e8).toNat) 0)<FZ then (q.values.getD ((e8).toNat) 0) else FZ) (if (q.values.getD ((e8).toNat) 0)>FY then (q.values.getD ((e8).toNat) 0) else FY))
 else none
def gE (n:Nat) (c:AB) (q:AA) (pos:List Int) (ln:Nat) (lost:List Int) (e8:Int):LN -> Option LN
 | .s0 FZ FY=>gF n c q pos ln lost e8 FZ FY
def Qt (n:Nat) (c:AB) (q:AA) (pos:List Int) (ln:Nat) (lost:List Int) (e8:Int) (s:LN):Option LN:=gE n c q pos ln lost e8 s
theorem wB (n:Nat) (c:AB) (q:AA) (pos:List Int) (ln:Nat) (lost:List Int) (l B:Nat) (N:Yd 6) (e8:Int) (s:LN) (r:LN) (h:Qt n c q pos ln lost e8 s=some r):TA l B N (Cs 6 [] 0 (gG c q pos ln lost r)) Tryz.f101 8 ⟨AM 32 [(2,.ref 2 0),(4,.ref 3 0),(5,.ref 4 0),(8,.it 5),(9,.i e8)],gG c q pos ln lost s⟩:=by
 cases s with
 | s0 FZ FY=>
  refine ag SB [0,1,2,3,4,5] H0 (AM 32 [(2,.ref 2 0),(4,.ref 3 0),(5,.ref 4 0),(6,.i e8)]) (tm c q pos ln lost FZ FY) fun N=>?_
  revert r;apply gO;exact jg mL (gn fun iL=>jg iL (jg iL (jt (jt (jg (Eq.refl (Zv c q pos ln lost e8 FZ FY)) (lF fun p=>rr (tg:=[([(20,3)],(Zv c q pos ln lost e8 FZ FY))]) SB [0,1,2,3,4,5] rfl p))))))
def gD (n:Nat) (ss:Int) (c:AB) (q:AA) (pos:List Int) (ln:Nat) (lost:List Int):Option (Int×Int×(List Int)):=
 if 0<=ss/\ ss<9223372036854775808 then
  (By (Qt n c q pos ln lost) (BK ss) (.s0 100 (-1))).bind fun y1=>
   match y1 with
   | .s0 Cu Ct=>
    some (Cu,Ct,lost)
 else none
def Qu (n:Nat) (ss:Int) (c:AB) (q:AA) (pos:List Int) (ln:Nat) (lost:List Int):Option (Int×Int×(List Int)):=gD n ss c q pos ln lost
theorem OY {n:Nat} {ss:Int} {c:AB} {q:AA} {pos:List Int} {ln:Nat} {lost:List Int} {r:Int×Int×(List Int)} (h:Qu n ss c q pos ln lost=some r):EQ 101 [.ref 0 0,.i ss] [some (.cells (AG c++AE q++[.ints pos,.msl 1 1 0 ln])),some (.ints lost)] (.tup 2 (L1 [.i r.1,.i r.2.1])) [some (.cells (AG c++AE q++[.ints pos,.msl 1 1 0 ln])),some (.ints r.2.2)] false:=by
 refine ot Tryz.func101 fun B N=>?_
 revert r;apply gO
 exact jt (jt (gn fun g0=>jc (Hl g0 (tp c q pos ln lost)) (cn fun y1 BB=>fun p r h=>by
  refine gs SB [0,1,2,3,4,5] p (Fl (Ab Tryz.f101) 8 []) (AM 32 [(2,.ref 2 0),(4,.ref 3 0),(5,.ref 4 0),(8,.it 5)]) (tn c q pos ln lost ss) ?_;refine r0 5 8 #[9] BV 6 BB (wB n c q pos ln lost) ?_;cases y1 with
  | s0 Cu Ct=>
   dsimp only at h
   revert r;apply gO;exact jg mK (jt (jt (jg (Eq.refl (Zw c q pos ln lost Cu Ct)) (lE (tg:=[([(2,3)],(Zw c q pos ln lost Cu Ct))]) SB [4,5] [0,1,3,4])))))))
def Z1:ST:=.rd 0 (.rd 1 (.rd 2 (.rd 3 (.rd 4 (.rd 5 (.rd 6 (.rd 7 (.ef 8 (.rd 9 (.rd 10 (.rd 11 (.rd 12 (.rd 13 (.fin [] [1,3,4,7,8,19,20,21,90])))))) (.no)))))))))
theorem lH:CF (BG Tryz.f70 5) [] Z1:=by unfold CF;kernel_rfl
def Z0:ST:=.rd 0 (.rd 1 (.rd 2 (.rd 3 (.rd 4 (.rd 5 (.ef 6 (.ef 7 (.fin [] [1,3,4,19,20,21,90]) (.no)) (.no)))))))
theorem lD:CF (BG Tryz.f70 6) [6] Z0:=by unfold CF;kernel_rfl
theorem lC:A0 (BG Tryz.f70 8) [] (List.range 16) []:=by unfold A0;kernel_rfl
def Z3:ST:=.rd 0 (.rd 1 (.rd 2 (.rd 3 (.rd 4 (.rd 5 (.rd 6 (.rd 7 (.ef 8 (.rd 9 (.rd 10 (.rd 11 (.ef 12 (.ef 13 (.ef 14 (.ef 15 (.fin [0,1] [1,3,4,10,11,12,64,65,66,90]) (.no)) (.no)) (.no)) (.ef 13 (.ef 12 (.ef 14 (.ef 15 (.fin [1,0] [1,3,4,10,11,12,64,65,66,90]) (.no)) (.no)) (.no)) (.no)))))) (.ef 12 (.ef 8 (.rd 9 (.rd 10 (.rd 11 (.ef 13 (.ef 14 (.ef 15 (.fin [0,1] [1,3,4,10,11,12,64,65,66,90]) (.no)) (.no)) (.no))))) (.ef 13 (.ef 8 (.rd 9 (.rd 10 (.rd 11 (.ef 14 (.ef 15 (.fin [0,1] [1,3,4,10,11,12,64,65,66,90]) (.no)) (.no))))) (.no)) (.no))) (.ef 13 (.ef 8 (.rd 9 (.rd 10 (.rd 11 (.ef 12 (.ef 14 (.ef 15 (.fin [1,0] [1,3,4,10,11,12,64,65,66,90]) (.no)) (.no)) (.no))))) (.ef 12 (.ef 8 (.rd 9 (.rd 10 (.rd 11 (.ef 14 (.ef 15 (.fin [1,0] [1,3,4,10,11,12,64,65,66,90]) (.no)) (.no))))) (.no)) (.no))) (.no)))))))))))
theorem lK:CF (BG Tryz.f70 13) [12,13,14] Z3:=by unfold CF;kernel_rfl
theorem lJ:A0 (BG Tryz.f70 14) [([0,1,2,3,4,5,6],7)] [] []:=by unfold A0;kernel_rfl
theorem lI:A0 (BG Tryz.f70 17) [] (List.range 24) []:=by unfold A0;kernel_rfl
def Z2:ST:=.rd 0 (.rd 1 (.rd 2 (.rd 3 (.ef 4 (.fin [] [2]) (.no)))))
theorem ap:CF (BG Tryz.f70 18) [] Z2:=by unfold CF;kernel_rfl
def HE:Bh:=fun i=>match i with
 | 5=>.tre [] Z1
 | 6=>.tre [6] Z0
 | 8=>.ord [] (List.range 16) []
 | 13=>.tre [12,13,14] Z3
 | 14=>.ord [([0,1,2,3,4,5,6],7)] [] []
 | 17=>.ord [] (List.range 24) []
 | 18=>.tre [] Z2
 | _=>.no
def sV (c:AB) (q:AA) (pos:List Int) (ln:Nat) (o1:List Int) (Az Ao:Int):DH:=[some (.cells (AG c++AE q++[.ints pos,.msl 1 1 0 ln])),some (.ints o1),some (.cells [.ref 0 0]),some (.cells [.i Az]),some (.cells [.i Ao])]
def Zj (y1:Int×Int×(List Int)) (c:AB) (x21:Int) (q:AA) (pos:List Int) (ln:Nat) (Az Ao:Int):St:=⟨(AM 129 [(1,.ref 2 0),(3,.ref 3 0),(4,.ref 4 0),(7,.i y1.1),(8,.i y1.2.1),(19,.ints c.cells),(20,.i (c.cells.length:Int)),(21,.i x21)]),([some (.cells (AG c++AE q++[.ints pos,.msl 1 1 0 ln])),some (.ints y1.2.2),some (.cells [.ref 0 0]),some (.cells [.i Az]),some (.cells [.i Ao])]:DH)⟩
def Zh (c:AB) (x21:Int) (q:AA) (pos:List Int) (ln:Nat) (y1:Int×Int×(List Int)) (Az Ao:Int):St:=⟨(AM 129 [(1,.ref 2 0),(3,.ref 3 0),(4,.ref 4 0),(19,.ints c.cells),(20,.i (c.cells.length:Int)),(21,.i x21)]),([some (.cells (AG c++AE q++[.ints pos,.msl 1 1 0 ln])),some (.ints y1.2.2),some (.cells [.ref 0 0]),some (.cells [.i (Az+y1.1)]),some (.cells [.i (Ao+y1.2.1)])]:DH)⟩
def sU (c:AB) (q:AA) (pos:List Int) (ln:Nat) (o1:List Int) (Az Ao Aj:Int):DH:=[some (.cells (AG c++AE q++[.ints pos,.msl 1 1 0 ln])),some (.ints o1),some (.cells [.ref 0 0]),some (.cells [.i Az]),some (.cells [.i Ao]),some (.cells [.i (c.cells.getD ((Aj).toNat) 0)])]
def Lh (c:AB) (Aj:Int) (q:AA) (pos:List Int) (ln:Nat) (y1:Int×Int×(List Int)) (Az Ao:Int):St:=⟨(AM 129 [(1,.ref 2 0),(3,.ref 3 0),(4,.ref 4 0),(10,.ref 5 0),(11,.ref 6 0),(12,.ref 7 0),(64,.ints c.cells),(65,.i (c.cells.length:Int)),(66,.i Aj)]),([some (.cells (AG c++AE q++[.ints pos,.msl 1 1 0 ln])),some (.ints y1.2.2),some (.cells [.ref 0 0]),some (.cells [.i Az]),some (.cells [.i Ao]),some (.cells [.i (c.cells.getD ((Aj).toNat) 0)]),some (.cells [.i y1.1]),some (.cells [.i y1.2.1])]:DH)⟩
def eF (c:AB) (q:AA) (pos:List Int) (ln:Nat) (o1:List Int) (Az Ao Aj:Int):DH:=[some (.cells (AG c++AE q++[.ints pos,.msl 1 1 0 ln])),some (.ints o1),some (.cells [.ref 0 0]),some (.cells [.i Az]),some (.cells [.i Ao]),some (.cells [.i (c.cells.getD ((Aj).toNat) 0)]),some (.cells [.i 0])]
def eE (c:AB) (q:AA) (pos:List Int) (ln:Nat) (o1:List Int) (Az Ao Aj:Int):DH:=[some (.cells (AG c++AE q++[.ints pos,.msl 1 1 0 ln])),some (.ints o1),some (.cells [.ref 0 0]),some (.cells [.i Az]),some (.cells [.i Ao]),some (.cells [.i (c.cells.getD ((Aj).toNat) 0)]),some (.cells [.i 0]),some (.cells [.i 0])]
def sT (c:AB) (q:AA) (pos:List Int) (ln:Nat) (y1:Int×Int×(List Int)) (Az Ao Aj:Int):DH:=[some (.cells (AG c++AE q++[.ints pos,.msl 1 1 0 ln])),some (.ints y1.2.2),some (.cells [.ref 0 0]),some (.cells [.i Az]),some (.cells [.i Ao]),some (.cells [.i (c.cells.getD ((Aj).toNat) 0)]),some (.cells [.i y1.1]),some (.cells [.i y1.2.1])]
def sS (c:AB) (q:AA) (pos:List Int) (ln:Nat) (y1:Int×Int×(List Int)) (Az Ao Aj:Int):DH:=[some (.cells (AG c++AE q++[.ints pos,.msl 1 1 0 ln])),some (.ints y1.2.2),some (.cells [.ref 0 0]),some (.cells [.i Az]),some (.cells [.i Ao]),some (.cells [.i (c.cells.getD ((Aj).toNat) 0)]),some (.cells [.i y1.1]),some (.cells [.i y1.2.1]),some (.iter ((BK (pos.getD ((c.cells.getD ((Aj).toNat) 0).toNat) 0)).map BV))]
def XU (c:AB) (q:AA) (pos:List Int) (ln:Nat) (Fu:List Int) (Az Ao Aj:Int) (y1:Int×Int×(List Int)):DH:=[some (.cells (AG c++AE q++[.ints pos,.msl 1 1 0 ln])),some (.ints Fu),some (.cells [.ref 0 0]),some (.cells [.i Az]),some (.cells [.i Ao]),some (.cells [.i (c.cells.getD ((Aj).toNat) 0)]),some (.cells [.i y1.1]),some (.cells [.i y1.2.1]),none]
def Rm (c:AB) (q:AA) (pos:List Int) (ln:Nat) (IP:(List Int)) (Az Ao Aj:Int) (y1:Int×Int×(List Int)):St:=⟨(AM 129 []),([some (.cells (AG c++AE q++[.ints pos,.msl 1 1 0 ln])),some (.ints IP),some (.cells [.ref 0 0]),some (.cells [.i Az]),some (.cells [.i Ao]),some (.cells [.i (c.cells.getD ((Aj).toNat) 0)]),some (.cells [.i y1.1]),some (.cells [.i y1.2.1]),none]:DH)⟩
inductive JU where
 | s0 (Fu:List Int)
def aL (c:AB) (Aj:Int) (q:AA) (pos:List Int) (ln:Nat) (Az Ao:Int) (y1:Int×Int×(List Int)):JU -> DH
 | .s0 Fu=>[some (.cells (AG c++AE q++[.ints pos,.msl 1 1 0 ln])),some (.ints Fu),some (.cells [.ref 0 0]),some (.cells [.i Az]),some (.cells [.i Ao]),some (.cells [.i (c.cells.getD ((Aj).toNat) 0)]),some (.cells [.i y1.1]),some (.cells [.i y1.2.1]),none]
def Rt (n:Nat) (c:AB) (Aj:Int) (q:AA) (pos:List Int) (ln:Nat) (Az Ao:Int) (y1:Int×Int×(List Int)) (ED:Int) (Fu:List Int):Option JU:=
 if (0<=ED/\ ED<(q.values.length:Int))/\ AL (Az-y1.1)/\ AL ((Az-y1.1)+(q.values.getD ((ED).toNat) 0)) then
  bif (decide (((Az-y1.1)+(q.values.getD ((ED).toNat) 0))>c.hi)) then
   if 0<=ED/\ ED<=(IntKind.i64.bits:Int) then
    (DA n (c.cells.getD ((Aj).toNat) 0) (IntKind.i64.wrap (1*2 ^ (ED).toNat)) c q pos ln Fu).bind fun IP=>
     some (.s0 IP)
   else none
  else
   if AL (Ao-y1.2.1)/\ AL ((Ao-y1.2.1)+(q.values.getD ((ED).toNat) 0)) then
    bif (decide (((Ao-y1.2.1)+(q.values.getD ((ED).toNat) 0))<c.lo)) then
     if 0<=ED/\ ED<=(IntKind.i64.bits:Int) then
      (DA n (c.cells.getD ((Aj).toNat) 0) (IntKind.i64.wrap (1*2 ^ (ED).toNat)) c q pos ln Fu).bind fun IP=>
       some (.s0 IP)
     else none
    else
     some (.s0 Fu)
   else none
 else none
def aK (n:Nat) (c:AB) (Aj:Int) (q:AA) (pos:List Int) (ln:Nat) (Az Ao:Int) (y1:Int×Int×(List Int)) (ED:Int):JU -> Option JU
 | .s0 Fu=>Rt n c Aj q pos ln Az Ao y1 ED Fu
def Ru (n:Nat) (c:AB) (Aj:Int) (q:AA) (pos:List Int) (ln:Nat) (Az Ao:Int) (y1:Int×Int×(List Int)) (ED:Int) (s:JU):Option JU:=aK n c Aj q pos ln Az Ao y1 ED s
theorem jv (n:Nat) (c:AB) (Aj:Int) (q:AA) (pos:List Int) (ln:Nat) (Az Ao:Int) (y1:Int×Int×(List Int)) (l B:Nat) (N:Yd 9) (ED:Int) (s:JU) (r:JU) (h:Ru n c Aj q pos ln Az Ao y1 ED s=some r):TA l B N (Cs 9 [] 0 (aL c Aj q pos ln Az Ao y1 r)) Tryz.f70 89 ⟨AM 129 [(1,.ref 2 0),(3,.ref 3 0),(4,.ref 4 0),(10,.ref 5 0),(11,.ref 6 0),(12,.ref 7 0),(64,.ints c.cells),(65,.i (c.cells.length:Int)),(66,.i Aj),(89,.it 8),(90,.i ED)],aL c Aj q pos ln Az Ao y1 s⟩:=by
 cases s with
 | s0 Fu=>
  replace h:Rt n c Aj q pos ln Az Ao y1 ED Fu=some r:=h;unfold Rt at h;refine ag HE [0,1,2,3,4,5,6,7,8] H0 (AM 129 [(1,.ref 2 0),(3,.ref 3 0),(4,.ref 4 0),(10,.ref 5 0),(11,.ref 6 0),(12,.ref 7 0),(13,.i ED)]) (XU c q pos ln Fu Az Ao Aj y1) fun N=>?_
  revert r;apply gO;exact gc (gi (jg lI (gc (gw 101 (gw 103 (bi 109 (jg ap (gi (ce Fe [0,1] (XU c q pos ln Fu Az Ao Aj y1) fun IP=>jg (Eq.refl (Rm c q pos ln IP Az Ao Aj y1)) (lF fun p=>rr (tg:=[([],(Rm c q pos ln IP Az Ao Aj y1))]) HE [0,1,2,3,4,5,6,7,8] rfl p)))) (gc (gw 113 (gw 115 (bi 121 (jg ap (gi (ce Fe [0,1] (XU c q pos ln Fu Az Ao Aj y1) fun IP=>jg (Eq.refl (Rm c q pos ln IP Az Ao Aj y1)) (lF fun p=>rr (tg:=[([],(Rm c q pos ln IP Az Ao Aj y1))]) HE [0,1,2,3,4,5,6,7,8] rfl p)))) (lF fun p=>rr HE [0,1,2,3,4,5,6,7,8] rfl p)))))))))))
inductive O3 where
 | l1 (x21:Int) (o1:List Int) (Az Ao:Int)
 | l2 (Aj:Int) (o1:List Int) (Az Ao:Int)
def O2 (n:Nat) (self:O3 -> Option (Bool×(List Int))) (c:AB) (q:AA) (pos:List Int) (ln:Nat) (lost:List Int) (x21:Int) (o1:List Int) (Az Ao:Int):Option (Bool×(List Int)):=
 bif (decide (x21<(c.cells.length:Int))) then
  if (0<=x21/\ x21<(c.cells.length:Int))/\ (0<=(c.cells.getD ((x21).toNat) 0)/\ (c.cells.getD ((x21).toNat) 0)<(pos.length:Int)) then
   (Qu n (pos.getD ((c.cells.getD ((x21).toNat) 0).toNat) 0) c q pos ln o1).bind fun y1=>
    if AL (Az+y1.1)/\ AL (Ao+y1.2.1)/\ AL (x21+1) then
     self (.l1 (x21+1) y1.2.2 (Az+y1.1) (Ao+y1.2.1))
    else none
  else none
 else
  bif (decide (Az>c.hi)) then
   some (false,o1)
  else
   bif (decide (Ao<c.lo)) then
    some (false,o1)
   else
    self (.l2 0 o1 Az Ao)
def O1 (n:Nat) (self:O3 -> Option (Bool×(List Int))) (c:AB) (q:AA) (pos:List Int) (ln:Nat) (lost:List Int) (Aj:Int) (o1:List Int) (Az Ao:Int):Option (Bool×(List Int)):=
 bif (decide (Aj<(c.cells.length:Int))) then
  if (0<=Aj/\ Aj<(c.cells.length:Int))/\ (0<=(c.cells.getD ((Aj).toNat) 0)/\ (c.cells.getD ((Aj).toNat) 0)<(pos.length:Int)) then
   (Qu n (pos.getD ((c.cells.getD ((Aj).toNat) 0).toNat) 0) c q pos ln o1).bind fun y1=>
    if 0<=(pos.getD ((c.cells.getD ((Aj).toNat) 0).toNat) 0)/\ (pos.getD ((c.cells.getD ((Aj).toNat) 0).toNat) 0)<9223372036854775808 then
     (By (Ru n c Aj q pos ln Az Ao y1) (BK (pos.getD ((c.cells.getD ((Aj).toNat) 0).toNat) 0)) (.s0 y1.2.2)).bind fun y2=>
      match y2 with
      | .s0 KM=>
       if AL (Aj+1) then
        self (.l2 (Aj+1) KM Az Ao)
       else none
    else none
  else none
 else
  some (true,o1)
def ju (n:Nat) (self:O3 -> Option (Bool×(List Int))) (c:AB) (q:AA) (pos:List Int) (ln:Nat) (lost:List Int):Option (Bool×(List Int)):=
 self (.l1 0 lost 0 0)
def Hm (c:AB) (q:AA) (pos:List Int) (ln:Nat) (lost:List Int):Nat -> O3 -> Option (Bool×(List Int))
 | 0,_=>none
 | n+1,.l1 x21 o1 Az Ao=>O2 n (Hm c q pos ln lost n) c q pos ln lost x21 o1 Az Ao
 | n+1,.l2 Aj o1 Az Ao=>O1 n (Hm c q pos ln lost n) c q pos ln lost Aj o1 Az Ao
def NJ (n:Nat) (c:AB) (q:AA) (pos:List Int) (ln:Nat) (lost:List Int):Option (Bool×(List Int)):=ju n (Hm c q pos ln lost n) c q pos ln lost
def jx (n B:Nat) (N:Yd 2) (c:AB) (q:AA) (pos:List Int) (ln:Nat) (lost:List Int) (r:Bool×(List Int)):O3 -> Prop
 | .l1 x21 o1 Az Ao=>∀ m0:Nat,n<=m0 -> TW B N (FQ Tryz.f70 2 (.bool r.1) [some (.cells (AG c++AE q++[.ints pos,.msl 1 1 0 ln])),some (.ints r.2)]) (A4 m0 (BF (Ab Tryz.f70) 0 [])) ⟨AM 129 [(1,.ref 2 0),(3,.ref 3 0),(4,.ref 4 0),(19,.ints c.cells),(20,.i (c.cells.length:Int)),(21,.i x21)],[some (.cells (AG c++AE q++[.ints pos,.msl 1 1 0 ln])),some (.ints o1),some (.cells [.ref 0 0]),some (.cells [.i Az]),some (.cells [.i Ao])]⟩
 | .l2 Aj o1 Az Ao=>∀ m0:Nat,n<=m0 -> TW B N (FQ Tryz.f70 2 (.bool r.1) [some (.cells (AG c++AE q++[.ints pos,.msl 1 1 0 ln])),some (.ints r.2)]) (A4 m0 (BF (Ab Tryz.f70) 2 [])) ⟨AM 129 [(1,.ref 2 0),(3,.ref 3 0),(4,.ref 4 0),(64,.ints c.cells),(65,.i (c.cells.length:Int)),(66,.i Aj)],[some (.cells (AG c++AE q++[.ints pos,.msl 1 1 0 ln])),some (.ints o1),some (.cells [.ref 0 0]),some (.cells [.i Az]),some (.cells [.i Ao])]⟩
theorem jy (B:Nat) (N:Yd 2) (c:AB) (q:AA) (pos:List Int) (ln:Nat) (lost:List Int):Al (Hm c q pos ln lost) (jx · B N c q pos ln lost):=ia (fun _=>rfl) fun n AH pt r h=>by
 cases pt
 case l1 x21 o1 Az Ao=>
  intro m0 AC;refine rd AC fun m0 AC=>?_
  revert r;apply gO;exact bi 22 (gc (gi (jg lH (gi (ce OY [0,1] (sV c q pos ln o1 Az Ao) fun y1=>jg (Eq.refl (Zj y1 c x21 q pos ln Az Ao)) (jg lD (gc (gw 39 (gc (gw 42 (jt (jt (jg (Eq.refl (Zh c x21 q pos ln y1 Az Ao)) (gw 43 (lG (tg:=[([],(Zj y1 c x21 q pos ln Az Ao)),([(6,3)],(Zh c x21 q pos ln y1 Az Ao))]) HE [0,1,2,3,4] (AH _ _ · m0 AC)))))))))))))))) (jg lC (bi 50 (lE HE [2] [0,1]) (bi 58 (lE HE [2] [0,1]) (lN HE [0,1,2,3,4] (AH _ _ · n Nat.le.refl)))))
 case l2 Aj o1 Az Ao=>
  intro m0 AC;refine rd AC fun m0 AC=>?_
  revert r;apply gO
  exact bi 67 (gc (gi (jt (jg lK (gn fun g1=>jg g1 (cn fun y1 BB=>jc (em (OY BB) [0,1] (sU c q pos ln o1 Az Ao Aj)) (jt (jt (jg (Eq.refl (Lh c Aj q pos ln y1 Az Ao)) (jt (jt (jg (Eq.refl (Lh c Aj q pos ln y1 Az Ao)) (jc (em (OY BB) [0,1] (eF c q pos ln o1 Az Ao Aj)) (jt (jt (jg (Eq.refl (Lh c Aj q pos ln y1 Az Ao)) (jc (em (OY BB) [0,1] (eE c q pos ln o1 Az Ao Aj)) (jt (jt (jg (Eq.refl (Lh c Aj q pos ln y1 Az Ao)) (jc (em (OY BB) [0,1] (eF c q pos ln o1 Az Ao Aj)) (jt (jt (jg (Eq.refl (Lh c Aj q pos ln y1 Az Ao)) (jc (em (OY BB) [0,1] (eE c q pos ln o1 Az Ao Aj)) (jt (jt (jg (Eq.refl (Lh c Aj q pos ln y1 Az Ao)) (jg lJ (jg g1 (gn fun g2=>jc (Hl g2 (sT c q pos ln y1 Az Ao Aj)) (cn fun y2 Bq=>fun p r h=>by
   refine gs (tg:=[([],(Lh c Aj q pos ln y1 Az Ao))]) HE [0,1,2,3,4,5,6,7,8] p (Fl (Ab Tryz.f70) 89 [m0]) (AM 129 [(1,.ref 2 0),(3,.ref 3 0),(4,.ref 4 0),(10,.ref 5 0),(11,.ref 6 0),(12,.ref 7 0),(64,.ints c.cells),(65,.i (c.cells.length:Int)),(66,.i Aj),(89,.it 8)]) (sS c q pos ln y1 Az Ao Aj) ?_;refine r0 8 89 #[90] BV 9 Bq (jv n c Aj q pos ln Az Ao y1) ?_;cases y2 with
   | s0 KM=>
    dsimp only at h
    revert r;apply gO;exact gw 128 (lG HE [0,1,2,3,4] (AH _ _ · m0 AC)))))))))))))))))))))))))))))))))) (lE HE [2] [0,1])
theorem js {n:Nat} {c:AB} {q:AA} {pos:List Int} {ln:Nat} {lost:List Int} {r:Bool×(List Int)} (h:NJ n c q pos ln lost=some r):EQ 70 [.ref 0 0] [some (.cells (AG c++AE q++[.ints pos,.msl 1 1 0 ln])),some (.ints lost)] (.bool r.1) [some (.cells (AG c++AE q++[.ints pos,.msl 1 1 0 ln])),some (.ints r.2)] false:=by
 refine ot Tryz.func70 fun B N=>?_
 revert r;apply gO;exact jt (jt (lN HE [0,1,2,3,4] ((jy B N c q pos ln lost n) _ _ · n Nat.le.refl)))
end Go.Proofs.YtgkhhfnhacibcaaGreatDoor
namespace Go.Proofs.YtgkhhfnhacibcaaGreatDoor
open Go.RowKit
set_option maxRecDepth 100000
set_option maxHeartbeats 40000000
theorem mP:A0 (BG Tryz.f106 1) [] (List.range 18) []:=by unfold A0;kernel_rfl
def ka:Bh:=fun i=>match i with
 | 1=>.ord [] (List.range 18) []
 | _=>.no
def ic (n:Nat) (s_ t_:Int) (c:AB) (q:AA) (pos:List Int) (ln:Nat) (lost:List Int):Option (Bool×(List Int)):=
 if (0<=s_/\ s_<(q.values.length:Int))/\ (0<=t_/\ t_<(q.values.length:Int))/\ AL ((q.values.getD ((s_).toNat) 0)-(q.values.getD ((t_).toNat) 0))/\ AL (0-((q.values.getD ((s_).toNat) 0)-(q.values.getD ((t_).toNat) 0))) then
  some ((decide ((if (0-((q.values.getD ((s_).toNat) 0)-(q.values.getD ((t_).toNat) 0)))>((q.values.getD ((s_).toNat) 0)-(q.values.getD ((t_).toNat) 0)) then (0-((q.values.getD ((s_).toNat) 0)-(q.values.getD ((t_).toNat) 0))) else ((q.values.getD ((s_).toNat) 0)-(q.values.getD ((t_).toNat) 0)))>=c.lo)),lost)
 else none
def Ux (n:Nat) (s_ t_:Int) (c:AB) (q:AA) (pos:List Int) (ln:Nat) (lost:List Int):Option (Bool×(List Int)):=ic n s_ t_ c q pos ln lost
theorem xx {n:Nat} {s_ t_:Int} {c:AB} {q:AA} {pos:List Int} {ln:Nat} {lost:List Int} {r:Bool×(List Int)} (h:Ux n s_ t_ c q pos ln lost=some r):EQ 106 [.i s_,.i t_,.ref 0 0] [some (.cells [.ref 1 0]),some (.cells (AG c++AE q++[.ints pos,.msl 2 1 0 ln])),some (.ints lost)] (.bool r.1) [some (.cells [.ref 1 0]),some (.cells (AG c++AE q++[.ints pos,.msl 2 1 0 ln])),some (.ints r.2)] false:=by
 refine ot Tryz.func106 fun B N=>?_
 revert r;apply gO;exact jg mP (gc (gi (gc (gi (gc (gw 23 (gw 26 (lE ka [5] [0,1,2]))))))))
theorem lu:A0 (BG Tryz.f107 1) [] (List.range 6) []:=by unfold A0;kernel_rfl
def PE:Bh:=fun i=>match i with
 | 1=>.ord [] (List.range 6) []
 | _=>.no
def cU (n:Nat) (s_ t_:Int) (c:AB) (q:AA) (pos:List Int) (ln:Nat) (lost:List Int):Option (Bool×(List Int)):=
 if (0<=s_/\ s_<=(IntKind.i64.bits:Int))/\ (0<=t_/\ t_<=(IntKind.i64.bits:Int)) then
  bif ((bits .and .i64 (IntKind.i64.wrap (1*2 ^ (s_).toNat)) c.set)==0) then
   bif ((bits .and .i64 (IntKind.i64.wrap (1*2 ^ (t_).toNat)) c.set)==0) then
    some (true,lost)
   else
    some (((bits .and .i64 (IntKind.i64.wrap (1*2 ^ (s_).toNat)) c.other)==0),lost)
  else
   bif ((bits .and .i64 (IntKind.i64.wrap (1*2 ^ (t_).toNat)) c.other)==0) then
    bif ((bits .and .i64 (IntKind.i64.wrap (1*2 ^ (t_).toNat)) c.set)==0) then
     some (true,lost)
    else
     some (((bits .and .i64 (IntKind.i64.wrap (1*2 ^ (s_).toNat)) c.other)==0),lost)
   else
    some (false,lost)
 else none
def S9 (n:Nat) (s_ t_:Int) (c:AB) (q:AA) (pos:List Int) (ln:Nat) (lost:List Int):Option (Bool×(List Int)):=cU n s_ t_ c q pos ln lost
theorem pE {n:Nat} {s_ t_:Int} {c:AB} {q:AA} {pos:List Int} {ln:Nat} {lost:List Int} {r:Bool×(List Int)} (h:S9 n s_ t_ c q pos ln lost=some r):EQ 107 [.i s_,.i t_,.ref 0 0] [some (.cells [.ref 1 0]),some (.cells (AG c++AE q++[.ints pos,.msl 2 1 0 ln])),some (.ints lost)] (.bool r.1) [some (.cells [.ref 1 0]),some (.cells (AG c++AE q++[.ints pos,.msl 2 1 0 ln])),some (.ints r.2)] false:=by
 refine ot Tryz.func107 fun B N=>?_
 revert r;apply gO;exact jg lu (gc (gi (gi (bi 19 (bi 38 (lE PE [5] [0,1,2]) (lE PE [5] [0,1,2])) (bi 28 (bi 38 (lE PE [5] [0,1,2]) (lE PE [5] [0,1,2])) (lE PE [5] [0,1,2]))))))
theorem lq:A0 (BG Tryz.f105 1) [] (List.range 16) []:=by unfold A0;kernel_rfl
theorem ll:A0 (BG Tryz.f105 2) [([0,1,2,3,4,5,6,7,8,9,10,11,12,13],14)] [15] [16]:=by unfold A0;kernel_rfl
theorem lj:A0 (BG Tryz.f105 9) [] [0,1,2,3] [4]:=by unfold A0;kernel_rfl
theorem lm:A0 (BG Tryz.f105 10) [] [0,1,2,3] [4]:=by unfold A0;kernel_rfl
def Ke:Bh:=fun i=>match i with
 | 1=>.ord [] (List.range 16) []
 | 2=>.ord [([0,1,2,3,4,5,6,7,8,9,10,11,12,13],14)] [15] [16]
 | 9=>.ord [] [0,1,2,3] [4]
 | 10=>.ord [] [0,1,2,3] [4]
 | _=>.no
def tV (c:AB) (q:AA) (pos:List Int) (ln:Nat) (lost:List Int):DH:=[some (.cells [.ref 1 0]),some (.cells (AG c++AE q++[.ints pos,.msl 2 1 0 ln])),some (.ints lost),some (.cells [.fn 106 1 (L1 [.ref 0 0])]),some (.cells [.i (pos.getD ((c.cells.getD 1 0).toNat) 0)]),some (.cells [.i 0]),some (.cells [.i 0])]
def tU (c:AB) (q:AA) (pos:List Int) (ln:Nat) (lost:List Int):DH:=[some (.cells [.ref 1 0]),some (.cells (AG c++AE q++[.ints pos,.msl 2 1 0 ln])),some (.ints lost),some (.cells [.fn 106 1 (L1 [.ref 0 0])]),some (.cells [.i (pos.getD ((c.cells.getD 1 0).toNat) 0)]),some (.cells [.i 0]),some (.cells [.i 0]),some (.iter ((BK (pos.getD ((c.cells.getD 0 0).toNat) 0)).map BV))]
def tT (c:AB) (q:AA) (pos:List Int) (ln:Nat) (Cu:List Int) (Ct FB:Int):DH:=[some (.cells [.ref 1 0]),some (.cells (AG c++AE q++[.ints pos,.msl 2 1 0 ln])),some (.ints Cu),some (.cells [.fn 106 1 (L1 [.ref 0 0])]),some (.cells [.i (pos.getD ((c.cells.getD 1 0).toNat) 0)]),some (.cells [.i Ct]),some (.cells [.i FB]),none]
def tS (c:AB) (q:AA) (pos:List Int) (ln:Nat) (y2:(List Int)) (Ct FB:Int):DH:=[some (.cells [.ref 1 0]),some (.cells (AG c++AE q++[.ints pos,.msl 2 1 0 ln])),some (.ints y2),some (.cells [.fn 106 1 (L1 [.ref 0 0])]),some (.cells [.i (pos.getD ((c.cells.getD 1 0).toNat) 0)]),some (.cells [.i Ct]),some (.cells [.i FB]),none]
def eM (c:AB) (q:AA) (pos:List Int) (ln:Nat) (Ca:List Int) (CZ CY A8:Int):DH:=[some (.cells [.ref 1 0]),some (.cells (AG c++AE q++[.ints pos,.msl 2 1 0 ln])),some (.ints Ca),some (.cells [.fn 106 1 (L1 [.ref 0 0])]),some (.cells [.i (pos.getD ((c.cells.getD 1 0).toNat) 0)]),some (.cells [.i CZ]),some (.cells [.i CY]),none,some (.cells [.i A8])]
def tR (c:AB) (q:AA) (pos:List Int) (ln:Nat) (Ca:List Int) (CZ CY A8:Int):DH:=[some (.cells [.ref 1 0]),some (.cells (AG c++AE q++[.ints pos,.msl 2 1 0 ln])),some (.ints Ca),some (.cells [.fn 106 1 (L1 [.ref 0 0])]),some (.cells [.i (pos.getD ((c.cells.getD 1 0).toNat) 0)]),some (.cells [.i CZ]),some (.cells [.i CY]),none,some (.cells [.i A8]),some (.iter ((BK (pos.getD ((c.cells.getD 1 0).toNat) 0)).map BV))]
def eL (c:AB) (q:AA) (pos:List Int) (ln:Nat) (DG:List Int) (Cy Cx A8:Int):DH:=[some (.cells [.ref 1 0]),some (.cells (AG c++AE q++[.ints pos,.msl 2 1 0 ln])),some (.ints DG),some (.cells [.fn 106 1 (L1 [.ref 0 0])]),some (.cells [.i (pos.getD ((c.cells.getD 1 0).toNat) 0)]),some (.cells [.i Cy]),some (.cells [.i Cx]),none,some (.cells [.i A8]),none]
inductive Ji where
 | s0 (DG:List Int) (Cy Cx:Int)
def cO (c:AB) (q:AA) (pos:List Int) (ln:Nat) (A8:Int):Ji -> DH
 | .s0 DG Cy Cx=>[some (.cells [.ref 1 0]),some (.cells (AG c++AE q++[.ints pos,.msl 2 1 0 ln])),some (.ints DG),some (.cells [.fn 106 1 (L1 [.ref 0 0])]),some (.cells [.i (pos.getD ((c.cells.getD 1 0).toNat) 0)]),some (.cells [.i Cy]),some (.cells [.i Cx]),none,some (.cells [.i A8]),none]
def Sw (n:Nat) (c:AB) (q:AA) (pos:List Int) (ln:Nat) (A8 C3:Int) (DG:List Int) (Cy Cx:Int):Option Ji:=
 (Ux n A8 C3 c q pos ln DG).bind fun M6=>
  bif M6.1 then
   if (0<=A8/\ A8<=(IntKind.i64.bits:Int))/\ (0<=C3/\ C3<=(IntKind.i64.bits:Int)) then
    some (.s0 M6.2 (bits .or .i64 Cy (IntKind.i64.wrap (1*2 ^ (A8).toNat))) (bits .or .i64 Cx (IntKind.i64.wrap (1*2 ^ (C3).toNat))))
   else none
  else
   some (.s0 M6.2 Cy Cx)
def cN (n:Nat) (c:AB) (q:AA) (pos:List Int) (ln:Nat) (A8 C3:Int):Ji -> Option Ji
 | .s0 DG Cy Cx=>Sw n c q pos ln A8 C3 DG Cy Cx
def Sx (n:Nat) (c:AB) (q:AA) (pos:List Int) (ln:Nat) (A8 C3:Int) (s:Ji):Option Ji:=cN n c q pos ln A8 C3 s
theorem oX (n:Nat) (c:AB) (q:AA) (pos:List Int) (ln:Nat) (A8:Int) (l B:Nat) (N:Yd 10) (C3:Int) (s:Ji) (r:Ji) (h:Sx n c q pos ln A8 C3 s=some r):TA l B N (Cs 10 [] 0 (cO c q pos ln A8 r)) Tryz.f105 45 ⟨AM 69 [(3,.ref 3 0),(9,.ref 5 0),(10,.ref 6 0),(11,.ref 8 0),(45,.it 9),(46,.i C3)],cO c q pos ln A8 s⟩:=by
 cases s with
 | s0 DG Cy Cx=>
  replace h:Sw n c q pos ln A8 C3 DG Cy Cx=some r:=h;unfold Sw at h;refine ag Ke [0,1,2,3,4,5,6,7,8,9] H0 (AM 69 [(3,.ref 3 0),(9,.ref 5 0),(10,.ref 6 0),(11,.ref 8 0),(12,.i C3)]) (eL c q pos ln DG Cy Cx A8) fun N=>?_
  revert r;apply gO;exact ce xx [0,1,2] (eL c q pos ln DG Cy Cx A8) fun _=>bi 50 (jg lj (gc (gi (jt (jg lm (gi (jt (lF fun p=>rr Ke [0,1,2,3,4,5,6,7,8,9] rfl p)))))))) (lF fun p=>rr Ke [0,1,2,3,4,5,6,7,8,9] rfl p)
inductive Jj where
 | s0 (Ca:List Int) (CZ CY:Int)
def cP (c:AB) (q:AA) (pos:List Int) (ln:Nat):Jj -> DH
 | .s0 Ca CZ CY=>[some (.cells [.ref 1 0]),some (.cells (AG c++AE q++[.ints pos,.msl 2 1 0 ln])),some (.ints Ca),some (.cells [.fn 106 1 (L1 [.ref 0 0])]),some (.cells [.i (pos.getD ((c.cells.getD 1 0).toNat) 0)]),some (.cells [.i CZ]),some (.cells [.i CY]),none]
def Su (n:Nat) (c:AB) (q:AA) (pos:List Int) (ln:Nat) (A8:Int) (Ca:List Int) (CZ CY:Int):Option Jj:=
 if 0<=(pos.getD ((c.cells.getD 1 0).toNat) 0)/\ (pos.getD ((c.cells.getD 1 0).toNat) 0)<9223372036854775808 then
  (By (Sx n c q pos ln A8) (BK (pos.getD ((c.cells.getD 1 0).toNat) 0)) (.s0 Ca CZ CY)).bind fun M7=>
   match M7 with
   | .s0 RL RJ RH=>
    some (.s0 RL RJ RH)
 else none
def cM (n:Nat) (c:AB) (q:AA) (pos:List Int) (ln:Nat) (A8:Int):Jj -> Option Jj
 | .s0 Ca CZ CY=>Su n c q pos ln A8 Ca CZ CY
def Sy (n:Nat) (c:AB) (q:AA) (pos:List Int) (ln:Nat) (A8:Int) (s:Jj):Option Jj:=cM n c q pos ln A8 s
theorem oW (n:Nat) (c:AB) (q:AA) (pos:List Int) (ln:Nat) (l B:Nat) (N:Yd 8) (A8:Int) (s:Jj) (r:Jj) (h:Sy n c q pos ln A8 s=some r):TA l B N (Cs 8 [] 0 (cP c q pos ln r)) Tryz.f105 42 ⟨AM 69 [(0,.ref 1 0),(3,.ref 3 0),(5,.i (c.cells.getD 0 0)),(6,.i (c.cells.getD 1 0)),(8,.ref 4 0),(9,.ref 5 0),(10,.ref 6 0),(42,.it 7),(43,.i A8)],cP c q pos ln s⟩:=by
 cases s with
 | s0 Ca CZ CY=>
  replace h:Su n c q pos ln A8 Ca CZ CY=some r:=h;unfold Su at h;refine ag Ke [0,1,2,3,4,5,6,7,8] (H0.t) (AM 69 [(3,.ref 3 0),(8,.ref 4 0),(9,.ref 5 0),(10,.ref 6 0),(11,.ref 8 0)]) (eM c q pos ln Ca CZ CY A8) fun N=>?_
  revert r;apply gO
  exact gn fun Yx=>jc (Hl Yx (eM c q pos ln Ca CZ CY A8)) (cn fun M7 X3=>fun p r h=>by
   refine gs Ke [0,1,2,3,4,5,6,7,8,9] p (Fl (SS Tryz.f105 42) 45 []) (AM 69 [(3,.ref 3 0),(9,.ref 5 0),(10,.ref 6 0),(11,.ref 8 0),(45,.it 9)]) (tR c q pos ln Ca CZ CY A8) ?_;refine r0 9 45 #[46] BV 10 X3 (oX n c q pos ln A8) ?_;cases M7 with
   | s0 RL RJ RH=>
    dsimp only at h
    revert r;apply gO;exact lF fun p=>rr Ke [0,1,2,3,4,5,6,7] rfl p)
def cL (n:Nat) (c:AB) (q:AA) (pos:List Int) (ln:Nat) (lost:List Int):Option (Bool×(List Int)):=
 if ((0:Int)<=0/\ 0<(c.cells.length:Int))/\ ((0:Int)<=1/\ 1<(c.cells.length:Int))/\ (0<=(c.cells.getD 0 0)/\ (c.cells.getD 0 0)<(pos.length:Int))/\ (0<=(c.cells.getD 1 0)/\ (c.cells.getD 1 0)<(pos.length:Int))/\ (0<=(pos.getD ((c.cells.getD 0 0).toNat) 0)/\ (pos.getD ((c.cells.getD 0 0).toNat) 0)<9223372036854775808) then
  (By (Sy n c q pos ln) (BK (pos.getD ((c.cells.getD 0 0).toNat) 0)) (.s0 lost 0 0)).bind fun y1=>
   match y1 with
   | .s0 Cu Ct FB=>
    (DA n (c.cells.getD 0 0) (bits .xor .i64 (-1) Ct) c q pos ln Cu).bind fun y2=>
     (DA n (c.cells.getD 1 0) (bits .xor .i64 (-1) FB) c q pos ln y2).bind fun y3=>
      some (true,y3)
 else none
def WL (n:Nat) (c:AB) (q:AA) (pos:List Int) (ln:Nat) (lost:List Int):Option (Bool×(List Int)):=cL n c q pos ln lost
theorem oV {n:Nat} {c:AB} {q:AA} {pos:List Int} {ln:Nat} {lost:List Int} {r:Bool×(List Int)} (h:WL n c q pos ln lost=some r):EQ 105 [.ref 1 0,.fn 106 1 (L1 [.ref 0 0])] [some (.cells [.ref 1 0]),some (.cells (AG c++AE q++[.ints pos,.msl 2 1 0 ln])),some (.ints lost)] (.bool r.1) [some (.cells [.ref 1 0]),some (.cells (AG c++AE q++[.ints pos,.msl 2 1 0 ln])),some (.ints r.2)] false:=by
 refine ot Tryz.func105 fun B N=>?_
 revert r;apply gO
 exact jg lq (gc (gi (gc (gi (jg ll (gc (gi (gc (gi (jt (gn fun g4=>jc (Hl g4 (tV c q pos ln lost)) (cn fun y1 BB=>fun p r h=>by
  refine gs Ke [0,1,2,3,4,5,6,7] p (Fl (Ab Tryz.f105) 42 []) (AM 69 [(0,.ref 1 0),(3,.ref 3 0),(5,.i (c.cells.getD 0 0)),(6,.i (c.cells.getD 1 0)),(8,.ref 4 0),(9,.ref 5 0),(10,.ref 6 0),(42,.it 7)]) (tU c q pos ln lost) ?_;refine r0 7 42 #[43] BV 8 BB (oW n c q pos ln) ?_;cases y1 with
  | s0 Cu Ct FB=>
   dsimp only at h
   revert r;apply gO;exact ce Fe [1,2] (tT c q pos ln Cu Ct FB) fun y2=>ce Fe [1,2] (tS c q pos ln y2 Ct FB) fun _=>lE Ke [4] [0,1,2]))))))))))))
theorem li:A0 (BG Tryz.f105 1) [] (List.range 16) []:=by unfold A0;kernel_rfl
theorem lf:A0 (BG Tryz.f105 2) [([0,1,2,3,4,5,6,7,8,9,10,11,12,13],14)] [15] [16]:=by unfold A0;kernel_rfl
theorem ld:A0 (BG Tryz.f105 9) [] [0,1,2,3] [4]:=by unfold A0;kernel_rfl
theorem lh:A0 (BG Tryz.f105 10) [] [0,1,2,3] [4]:=by unfold A0;kernel_rfl
def Kd:Bh:=fun i=>match i with
 | 1=>.ord [] (List.range 16) []
 | 2=>.ord [([0,1,2,3,4,5,6,7,8,9,10,11,12,13],14)] [15] [16]
 | 9=>.ord [] [0,1,2,3] [4]
 | 10=>.ord [] [0,1,2,3] [4]
 | _=>.no
def tQ (c:AB) (q:AA) (pos:List Int) (ln:Nat) (lost:List Int):DH:=[some (.cells [.ref 1 0]),some (.cells (AG c++AE q++[.ints pos,.msl 2 1 0 ln])),some (.ints lost),some (.cells [.fn 107 1 (L1 [.ref 0 0])]),some (.cells [.i (pos.getD ((c.cells.getD 1 0).toNat) 0)]),some (.cells [.i 0]),some (.cells [.i 0])]
def tP (c:AB) (q:AA) (pos:List Int) (ln:Nat) (lost:List Int):DH:=[some (.cells [.ref 1 0]),some (.cells (AG c++AE q++[.ints pos,.msl 2 1 0 ln])),some (.ints lost),some (.cells [.fn 107 1 (L1 [.ref 0 0])]),some (.cells [.i (pos.getD ((c.cells.getD 1 0).toNat) 0)]),some (.cells [.i 0]),some (.cells [.i 0]),some (.iter ((BK (pos.getD ((c.cells.getD 0 0).toNat) 0)).map BV))]
def tO (c:AB) (q:AA) (pos:List Int) (ln:Nat) (Cu:List Int) (Ct FB:Int):DH:=[some (.cells [.ref 1 0]),some (.cells (AG c++AE q++[.ints pos,.msl 2 1 0 ln])),some (.ints Cu),some (.cells [.fn 107 1 (L1 [.ref 0 0])]),some (.cells [.i (pos.getD ((c.cells.getD 1 0).toNat) 0)]),some (.cells [.i Ct]),some (.cells [.i FB]),none]
def tN (c:AB) (q:AA) (pos:List Int) (ln:Nat) (y2:(List Int)) (Ct FB:Int):DH:=[some (.cells [.ref 1 0]),some (.cells (AG c++AE q++[.ints pos,.msl 2 1 0 ln])),some (.ints y2),some (.cells [.fn 107 1 (L1 [.ref 0 0])]),some (.cells [.i (pos.getD ((c.cells.getD 1 0).toNat) 0)]),some (.cells [.i Ct]),some (.cells [.i FB]),none]
def eK (c:AB) (q:AA) (pos:List Int) (ln:Nat) (Ca:List Int) (CZ CY A8:Int):DH:=[some (.cells [.ref 1 0]),some (.cells (AG c++AE q++[.ints pos,.msl 2 1 0 ln])),some (.ints Ca),some (.cells [.fn 107 1 (L1 [.ref 0 0])]),some (.cells [.i (pos.getD ((c.cells.getD 1 0).toNat) 0)]),some (.cells [.i CZ]),some (.cells [.i CY]),none,some (.cells [.i A8])]
def tM (c:AB) (q:AA) (pos:List Int) (ln:Nat) (Ca:List Int) (CZ CY A8:Int):DH:=[some (.cells [.ref 1 0]),some (.cells (AG c++AE q++[.ints pos,.msl 2 1 0 ln])),some (.ints Ca),some (.cells [.fn 107 1 (L1 [.ref 0 0])]),some (.cells [.i (pos.getD ((c.cells.getD 1 0).toNat) 0)]),some (.cells [.i CZ]),some (.cells [.i CY]),none,some (.cells [.i A8]),some (.iter ((BK (pos.getD ((c.cells.getD 1 0).toNat) 0)).map BV))]
def eJ (c:AB) (q:AA) (pos:List Int) (ln:Nat) (DG:List Int) (Cy Cx A8:Int):DH:=[some (.cells [.ref 1 0]),some (.cells (AG c++AE q++[.ints pos,.msl 2 1 0 ln])),some (.ints DG),some (.cells [.fn 107 1 (L1 [.ref 0 0])]),some (.cells [.i (pos.getD ((c.cells.getD 1 0).toNat) 0)]),some (.cells [.i Cy]),some (.cells [.i Cx]),none,some (.cells [.i A8]),none]
inductive Jg where
 | s0 (DG:List Int) (Cy Cx:Int)
def cJ (c:AB) (q:AA) (pos:List Int) (ln:Nat) (A8:Int):Jg -> DH
 | .s0 DG Cy Cx=>[some (.cells [.ref 1 0]),some (.cells (AG c++AE q++[.ints pos,.msl 2 1 0 ln])),some (.ints DG),some (.cells [.fn 107 1 (L1 [.ref 0 0])]),some (.cells [.i (pos.getD ((c.cells.getD 1 0).toNat) 0)]),some (.cells [.i Cy]),some (.cells [.i Cx]),none,some (.cells [.i A8]),none]
def Sq (n:Nat) (c:AB) (q:AA) (pos:List Int) (ln:Nat) (A8 C3:Int) (DG:List Int) (Cy Cx:Int):Option Jg:=
 (S9 n A8 C3 c q pos ln DG).bind fun M6=>
  bif M6.1 then
   if (0<=A8/\ A8<=(IntKind.i64.bits:Int))/\ (0<=C3/\ C3<=(IntKind.i64.bits:Int)) then
    some (.s0 M6.2 (bits .or .i64 Cy (IntKind.i64.wrap (1*2 ^ (A8).toNat))) (bits .or .i64 Cx (IntKind.i64.wrap (1*2 ^ (C3).toNat))))
   else none
  else
   some (.s0 M6.2 Cy Cx)
def cI (n:Nat) (c:AB) (q:AA) (pos:List Int) (ln:Nat) (A8 C3:Int):Jg -> Option Jg
 | .s0 DG Cy Cx=>Sq n c q pos ln A8 C3 DG Cy Cx
def Sr (n:Nat) (c:AB) (q:AA) (pos:List Int) (ln:Nat) (A8 C3:Int) (s:Jg):Option Jg:=cI n c q pos ln A8 C3 s
theorem oU (n:Nat) (c:AB) (q:AA) (pos:List Int) (ln:Nat) (A8:Int) (l B:Nat) (N:Yd 10) (C3:Int) (s:Jg) (r:Jg) (h:Sr n c q pos ln A8 C3 s=some r):TA l B N (Cs 10 [] 0 (cJ c q pos ln A8 r)) Tryz.f105 45 ⟨AM 69 [(3,.ref 3 0),(9,.ref 5 0),(10,.ref 6 0),(11,.ref 8 0),(45,.it 9),(46,.i C3)],cJ c q pos ln A8 s⟩:=by
 cases s with
 | s0 DG Cy Cx=>
  replace h:Sq n c q pos ln A8 C3 DG Cy Cx=some r:=h;unfold Sq at h;refine ag Kd [0,1,2,3,4,5,6,7,8,9] H0 (AM 69 [(3,.ref 3 0),(9,.ref 5 0),(10,.ref 6 0),(11,.ref 8 0),(12,.i C3)]) (eJ c q pos ln DG Cy Cx A8) fun N=>?_
  revert r;apply gO;exact ce pE [0,1,2] (eJ c q pos ln DG Cy Cx A8) fun _=>bi 50 (jg ld (gc (gi (jt (jg lh (gi (jt (lF fun p=>rr Kd [0,1,2,3,4,5,6,7,8,9] rfl p)))))))) (lF fun p=>rr Kd [0,1,2,3,4,5,6,7,8,9] rfl p)
inductive Jh where
 | s0 (Ca:List Int) (CZ CY:Int)
def cK (c:AB) (q:AA) (pos:List Int) (ln:Nat):Jh -> DH
 | .s0 Ca CZ CY=>[some (.cells [.ref 1 0]),some (.cells (AG c++AE q++[.ints pos,.msl 2 1 0 ln])),some (.ints Ca),some (.cells [.fn 107 1 (L1 [.ref 0 0])]),some (.cells [.i (pos.getD ((c.cells.getD 1 0).toNat) 0)]),some (.cells [.i CZ]),some (.cells [.i CY]),none]
def So (n:Nat) (c:AB) (q:AA) (pos:List Int) (ln:Nat) (A8:Int) (Ca:List Int) (CZ CY:Int):Option Jh:=
 if 0<=(pos.getD ((c.cells.getD 1 0).toNat) 0)/\ (pos.getD ((c.cells.getD 1 0).toNat) 0)<9223372036854775808 then
  (By (Sr n c q pos ln A8) (BK (pos.getD ((c.cells.getD 1 0).toNat) 0)) (.s0 Ca CZ CY)).bind fun M7=>
   match M7 with
   | .s0 RL RJ RH=>
    some (.s0 RL RJ RH)
 else none
def cH (n:Nat) (c:AB) (q:AA) (pos:List Int) (ln:Nat) (A8:Int):Jh -> Option Jh
 | .s0 Ca CZ CY=>So n c q pos ln A8 Ca CZ CY
def Ss (n:Nat) (c:AB) (q:AA) (pos:List Int) (ln:Nat) (A8:Int) (s:Jh):Option Jh:=cH n c q pos ln A8 s
theorem oT (n:Nat) (c:AB) (q:AA) (pos:List Int) (ln:Nat) (l B:Nat) (N:Yd 8) (A8:Int) (s:Jh) (r:Jh) (h:Ss n c q pos ln A8 s=some r):TA l B N (Cs 8 [] 0 (cK c q pos ln r)) Tryz.f105 42 ⟨AM 69 [(0,.ref 1 0),(3,.ref 3 0),(5,.i (c.cells.getD 0 0)),(6,.i (c.cells.getD 1 0)),(8,.ref 4 0),(9,.ref 5 0),(10,.ref 6 0),(42,.it 7),(43,.i A8)],cK c q pos ln s⟩:=by
 cases s with
 | s0 Ca CZ CY=>
  replace h:So n c q pos ln A8 Ca CZ CY=some r:=h;unfold So at h;refine ag Kd [0,1,2,3,4,5,6,7,8] (H0.t) (AM 69 [(3,.ref 3 0),(8,.ref 4 0),(9,.ref 5 0),(10,.ref 6 0),(11,.ref 8 0)]) (eK c q pos ln Ca CZ CY A8) fun N=>?_
  revert r;apply gO
  exact gn fun Yx=>jc (Hl Yx (eK c q pos ln Ca CZ CY A8)) (cn fun M7 X3=>fun p r h=>by
   refine gs Kd [0,1,2,3,4,5,6,7,8,9] p (Fl (SS Tryz.f105 42) 45 []) (AM 69 [(3,.ref 3 0),(9,.ref 5 0),(10,.ref 6 0),(11,.ref 8 0),(45,.it 9)]) (tM c q pos ln Ca CZ CY A8) ?_;refine r0 9 45 #[46] BV 10 X3 (oU n c q pos ln A8) ?_;cases M7 with
   | s0 RL RJ RH=>
    dsimp only at h
    revert r;apply gO;exact lF fun p=>rr Kd [0,1,2,3,4,5,6,7] rfl p)
def cG (n:Nat) (c:AB) (q:AA) (pos:List Int) (ln:Nat) (lost:List Int):Option (Bool×(List Int)):=
 if ((0:Int)<=0/\ 0<(c.cells.length:Int))/\ ((0:Int)<=1/\ 1<(c.cells.length:Int))/\ (0<=(c.cells.getD 0 0)/\ (c.cells.getD 0 0)<(pos.length:Int))/\ (0<=(c.cells.getD 1 0)/\ (c.cells.getD 1 0)<(pos.length:Int))/\ (0<=(pos.getD ((c.cells.getD 0 0).toNat) 0)/\ (pos.getD ((c.cells.getD 0 0).toNat) 0)<9223372036854775808) then
  (By (Ss n c q pos ln) (BK (pos.getD ((c.cells.getD 0 0).toNat) 0)) (.s0 lost 0 0)).bind fun y1=>
   match y1 with
   | .s0 Cu Ct FB=>
    (DA n (c.cells.getD 0 0) (bits .xor .i64 (-1) Ct) c q pos ln Cu).bind fun y2=>
     (DA n (c.cells.getD 1 0) (bits .xor .i64 (-1) FB) c q pos ln y2).bind fun y3=>
      some (true,y3)
 else none
def WK (n:Nat) (c:AB) (q:AA) (pos:List Int) (ln:Nat) (lost:List Int):Option (Bool×(List Int)):=cG n c q pos ln lost
theorem oS {n:Nat} {c:AB} {q:AA} {pos:List Int} {ln:Nat} {lost:List Int} {r:Bool×(List Int)} (h:WK n c q pos ln lost=some r):EQ 105 [.ref 1 0,.fn 107 1 (L1 [.ref 0 0])] [some (.cells [.ref 1 0]),some (.cells (AG c++AE q++[.ints pos,.msl 2 1 0 ln])),some (.ints lost)] (.bool r.1) [some (.cells [.ref 1 0]),some (.cells (AG c++AE q++[.ints pos,.msl 2 1 0 ln])),some (.ints r.2)] false:=by
 refine ot Tryz.func105 fun B N=>?_
 revert r;apply gO
 exact jg li (gc (gi (gc (gi (jg lf (gc (gi (gc (gi (jt (gn fun g4=>jc (Hl g4 (tQ c q pos ln lost)) (cn fun y1 BB=>fun p r h=>by
  refine gs Kd [0,1,2,3,4,5,6,7] p (Fl (Ab Tryz.f105) 42 []) (AM 69 [(0,.ref 1 0),(3,.ref 3 0),(5,.i (c.cells.getD 0 0)),(6,.i (c.cells.getD 1 0)),(8,.ref 4 0),(9,.ref 5 0),(10,.ref 6 0),(42,.it 7)]) (tP c q pos ln lost) ?_;refine r0 7 42 #[43] BV 8 BB (oT n c q pos ln) ?_;cases y1 with
  | s0 Cu Ct FB=>
   dsimp only at h
   revert r;apply gO;exact ce Fe [1,2] (tO c q pos ln Cu Ct FB) fun y2=>ce Fe [1,2] (tN c q pos ln y2 Ct FB) fun _=>lE Kd [4] [0,1,2]))))))))))))
def ZA (n:Nat) (c:AB) (q:AA) (pos:List Int) (ln:Nat) (lost:List Int):Option (Bool×(List Int)):=
 (WL n c q pos ln lost).bind fun y1=>
  some (y1.1,y1.2)
def M9 (n:Nat) (c:AB) (q:AA) (pos:List Int) (ln:Nat) (lost:List Int):Option (Bool×(List Int)):=ZA n c q pos ln lost
theorem xu {n:Nat} {c:AB} {q:AA} {pos:List Int} {ln:Nat} {lost:List Int} {r:Bool×(List Int)} (h:M9 n c q pos ln lost=some r):EQ 73 [.ref 0 0] [some (.cells (AG c++AE q++[.ints pos,.msl 1 1 0 ln])),some (.ints lost)] (.bool r.1) [some (.cells (AG c++AE q++[.ints pos,.msl 1 1 0 ln])),some (.ints r.2)] false:=by
 unfold M9 ZA at h;refine ot Tryz.func73 fun B N=>?_
 revert r;apply gO;exact ce oV [2,0,1] [some (.cells (AG c++AE q++[.ints pos,.msl 1 1 0 ln])),some (.ints lost),some (.cells [.ref 0 0])] fun _=>lE AF [2] [0,1]
def WV (n:Nat) (c:AB) (q:AA) (pos:List Int) (ln:Nat) (lost:List Int):Option (Bool×(List Int)):=
 (WK n c q pos ln lost).bind fun y1=>
  some (y1.1,y1.2)
def MA (n:Nat) (c:AB) (q:AA) (pos:List Int) (ln:Nat) (lost:List Int):Option (Bool×(List Int)):=WV n c q pos ln lost
theorem pD {n:Nat} {c:AB} {q:AA} {pos:List Int} {ln:Nat} {lost:List Int} {r:Bool×(List Int)} (h:MA n c q pos ln lost=some r):EQ 74 [.ref 0 0] [some (.cells (AG c++AE q++[.ints pos,.msl 1 1 0 ln])),some (.ints lost)] (.bool r.1) [some (.cells (AG c++AE q++[.ints pos,.msl 1 1 0 ln])),some (.ints r.2)] false:=by
 unfold MA WV at h;refine ot Tryz.func74 fun B N=>?_
 revert r;apply gO;exact ce oS [2,0,1] [some (.cells (AG c++AE q++[.ints pos,.msl 1 1 0 ln])),some (.ints lost),some (.cells [.ref 0 0])] fun _=>lE AF [2] [0,1]
def tj (kd st Aw lo hi:Int) (rn:List Int) (rl Av AR Ai:Int):DH:=[some (.cells [.i kd,.nils,.i st,.i Aw,.i lo,.i hi,.ints rn,.i rl,.i Av]),some (.cells [.i 0,.i 0,.nils,.nils,.nils]),some (.cells [.i AR,.i Ai,.nils,.nils,.nils]),none]
def tf (kd st Aw lo hi:Int) (rn:List Int) (rl Av AR Ai:Int) (D7:Nat) (o3:List Int):DH:=[some (.cells [.i kd,.nils,.i st,.i Aw,.i lo,.i hi,.ints rn,.i rl,.i Av]),some (.cells [.i 0,.i 0,.nils,.nils,.nils]),some (.cells [.i AR,.i Ai,.msl 3 1 0 D7,.nils,.nils]),some (.ints o3),none]
def Xc (kd:Int) (Bn:Nat) (st Aw lo hi:Int) (rn:List Int) (rl Av:Int) (o1:List Int) (AR Ai:Int) (CB:Nat) (o4:List (List Int)):DH:=[some (.cells [.i kd,.msl 1 1 0 Bn,.i st,.i Aw,.i lo,.i hi,.ints rn,.i rl,.i Av]),some (.ints o1),some (.cells [.i 0,.i 0,.nils,.nils,.nils]),some (.cells [.i AR,.i Ai,.nils,.msl 4 1 0 CB,.nils]),some (.arr 1 o4.length (Aq At o4)),none]
def te (kd:Int) (o1:List Int) (st Aw lo hi:Int) (rn:List Int) (rl Av AR Ai:Int) (CB:Nat) (o4:List (List Int)):DH:=[some (.cells [.i kd,.ints o1,.i st,.i Aw,.i lo,.i hi,.ints rn,.i rl,.i Av]),none,some (.cells [.i 0,.i 0,.nils,.nils,.nils]),some (.cells [.i AR,.i Ai,.nils,.msl 4 1 0 CB,.nils]),some (.arr 1 o4.length (Aq At o4))]
def Xb (kd:Int) (Bn:Nat) (st Aw lo hi:Int) (rn:List Int) (rl Av:Int) (o1:List Int) (AR Ai:Int) (Ec CB:Nat) (EM:List Int) (o5:List (List Int)):DH:=[some (.cells [.i kd,.msl 1 1 0 Bn,.i st,.i Aw,.i lo,.i hi,.ints rn,.i rl,.i Av]),some (.ints o1),some (.cells [.i 0,.i 0,.nils,.nils,.nils]),some (.cells [.i AR,.i Ai,.msl 4 1 0 Ec,.msl 5 1 0 CB,.nils]),some (.ints EM),some (.arr 1 o5.length (Aq At o5)),none]
def tc (kd:Int) (o1:List Int) (st Aw lo hi:Int) (rn:List Int) (rl Av AR Ai:Int) (Ec CB:Nat) (EM:List Int) (o5:List (List Int)):DH:=[some (.cells [.i kd,.ints o1,.i st,.i Aw,.i lo,.i hi,.ints rn,.i rl,.i Av]),none,some (.cells [.i 0,.i 0,.nils,.nils,.nils]),some (.cells [.i AR,.i Ai,.msl 4 1 0 Ec,.msl 5 1 0 CB,.nils]),some (.ints EM),some (.arr 1 o5.length (Aq At o5))]
inductive Jp where
 | l1
 | l2 (BX:Int) (D7:Nat) (o3:List Int)
 | l3
 | l4 (D7:Nat) (o3:List Int)
 | l5 (AJ:Int) (Bn:Nat) (o1:List Int) (CB:Nat) (o4:List (List Int))
 | l6 (AJ:Int) (Bn:Nat) (o1:List Int) (Ec CB:Nat) (EM:List Int) (o5:List (List Int))
def qF (n:Nat) (self:Jp -> Option AA) (AR Ai kd st Aw lo hi:Int) (rn:List Int) (rl Av:Int):Option AA:=
 bif (decide (0<Ai)) then
  self (.l2 1 (([1]:List Int).length) ([1]:List Int))
 else
  self (.l3)
def qE (n:Nat) (self:Jp -> Option AA) (AR Ai kd st Aw lo hi:Int) (rn:List Int) (rl Av:Int) (BX:Int) (D7:Nat) (o3:List Int):Option AA:=
 bif (decide (BX<Ai)) then
  if AL (BX+1)/\ ((0=0/\ 1=([(BX+1)]:List Int).length)/\ (0=0/\ D7=o3.length)/\ o3.length+([(BX+1)]:List Int).length<=Ax) then
   self (.l2 (BX+1) (o3.length+([(BX+1)]:List Int).length) (o3++([(BX+1)]:List Int)))
  else none
 else
  self (.l4 D7 o3)
def qD (n:Nat) (self:Jp -> Option AA) (AR Ai kd st Aw lo hi:Int) (rn:List Int) (rl Av:Int):Option AA:=
 bif (decide (0<AR)) then
  bif (decide (1<AR)) then
   self (.l5 1 (([0]:List Int).length) ([0]:List Int) (([([1]:List Int)]:List (List Int)).length) ([([1]:List Int)]:List (List Int)))
  else
   self (.l5 1 (([0]:List Int).length) ([0]:List Int) (([([]:List Int)]:List (List Int)).length) ([([]:List Int)]:List (List Int)))
 else
  some (⟨AR,Ai,([]:List Int),([]:List (List Int)),([(⟨kd,([]:List Int),st,Aw,lo,hi,rn,rl,Av⟩:AB)]:List AB)⟩:AA)
def qC (n:Nat) (self:Jp -> Option AA) (AR Ai kd st Aw lo hi:Int) (rn:List Int) (rl Av:Int) (D7:Nat) (o3:List Int):Option AA:=
 bif (decide (0<AR)) then
  bif (decide (1<AR)) then
   self (.l6 1 (([0]:List Int).length) ([0]:List Int) D7 (([([1]:List Int)]:List (List Int)).length) o3 ([([1]:List Int)]:List (List Int)))
  else
   self (.l6 1 (([0]:List Int).length) ([0]:List Int) D7 (([([]:List Int)]:List (List Int)).length) o3 ([([]:List Int)]:List (List Int)))
 else
  if D7=o3.length then
   some (⟨AR,Ai,o3,([]:List (List Int)),([(⟨kd,([]:List Int),st,Aw,lo,hi,rn,rl,Av⟩:AB)]:List AB)⟩:AA)
  else none
def qB (n:Nat) (self:Jp -> Option AA) (AR Ai kd st Aw lo hi:Int) (rn:List Int) (rl Av:Int) (AJ:Int) (Bn:Nat) (o1:List Int) (CB:Nat) (o4:List (List Int)):Option AA:=
 bif (decide (AJ<AR)) then
  bif (decide (AJ>0)) then
   if AL (AJ-1)/\ ((0=0/\ 1=([(AJ-1)]:List Int).length)/\ 0<([(AJ-1)]:List Int).length/\ ([(AJ-1)]:List Int).length<=Ax)/\ AL (AJ+1) then
    bif (decide ((AJ+1)<AR)) then
     if (0=0/\ 1=([(AJ+1)]:List Int).length)/\ (0=0/\ ([(AJ-1)]:List Int).length=([(AJ-1)]:List Int).length)/\ ([(AJ-1)]:List Int).length+([(AJ+1)]:List Int).length<=Ax then
      if ([(AJ-1)]:List Int).length+([(AJ+1)]:List Int).length=(([(AJ-1)]:List Int)++([(AJ+1)]:List Int)).length then
       if CB=o4.length/\ o4.length+([([(AJ-1)]:List Int)++([(AJ+1)]:List Int)]:List (List Int)).length<=Ax/\ ((0=0/\ 1=([AJ]:List Int).length)/\ (0=0/\ Bn=o1.length)/\ o1.length+([AJ]:List Int).length<=Ax)/\ AL (AJ+1) then
        self (.l5 (AJ+1) (o1.length+([AJ]:List Int).length) (o1++([AJ]:List Int)) (o4.length+([([(AJ-1)]:List Int)++([(AJ+1)]:List Int)]:List (List Int)).length) (o4++([([(AJ-1)]:List Int)++([(AJ+1)]:List Int)]:List (List Int))))
       else none
      else none
     else none
    else
     if CB=o4.length/\ o4.length+([([(AJ-1)]:List Int)]:List (List Int)).length<=Ax/\ ((0=0/\ 1=([AJ]:List Int).length)/\ (0=0/\ Bn=o1.length)/\ o1.length+([AJ]:List Int).length<=Ax)/\ AL (AJ+1) then
      self (.l5 (AJ+1) (o1.length+([AJ]:List Int).length) (o1++([AJ]:List Int)) (o4.length+([([(AJ-1)]:List Int)]:List (List Int)).length) (o4++([([(AJ-1)]:List Int)]:List (List Int))))
     else none
   else none
  else
   if AL (AJ+1) then
    bif (decide ((AJ+1)<AR)) then
     if (0=0/\ 1=([(AJ+1)]:List Int).length)/\ 0<([(AJ+1)]:List Int).length/\ ([(AJ+1)]:List Int).length<=Ax then
      if CB=o4.length/\ o4.length+([([(AJ+1)]:List Int)]:List (List Int)).length<=Ax/\ ((0=0/\ 1=([AJ]:List Int).length)/\ (0=0/\ Bn=o1.length)/\ o1.length+([AJ]:List Int).length<=Ax)/\ AL (AJ+1) then
       self (.l5 (AJ+1) (o1.length+([AJ]:List Int).length) (o1++([AJ]:List Int)) (o4.length+([([(AJ+1)]:List Int)]:List (List Int)).length) (o4++([([(AJ+1)]:List Int)]:List (List Int))))
      else none
     else none
    else
     if CB=o4.length/\ o4.length+([([]:List Int)]:List (List Int)).length<=Ax/\ ((0=0/\ 1=([AJ]:List Int).length)/\ (0=0/\ Bn=o1.length)/\ o1.length+([AJ]:List Int).length<=Ax) then
      self (.l5 (AJ+1) (o1.length+([AJ]:List Int).length) (o1++([AJ]:List Int)) (o4.length+([([]:List Int)]:List (List Int)).length) (o4++([([]:List Int)]:List (List Int))))
     else none
   else none
 else
  if Bn=o1.length then
   if CB=o4.length then
    some (⟨AR,Ai,([]:List Int),o4,([(⟨kd,o1,st,Aw,lo,hi,rn,rl,Av⟩:AB)]:List AB)⟩:AA)
   else none
  else none
def qA (n:Nat) (self:Jp -> Option AA) (AR Ai kd st Aw lo hi:Int) (rn:List Int) (rl Av:Int) (AJ:Int) (Bn:Nat) (o1:List Int) (Ec CB:Nat) (EM:List Int) (o5:List (List Int)):Option AA:=
 bif (decide (AJ<AR)) then
  bif (decide (AJ>0)) then
   if AL (AJ-1)/\ ((0=0/\ 1=([(AJ-1)]:List Int).length)/\ 0<([(AJ-1)]:List Int).length/\ ([(AJ-1)]:List Int).length<=Ax)/\ AL (AJ+1) then
    bif (decide ((AJ+1)<AR)) then
     if (0=0/\ 1=([(AJ+1)]:List Int).length)/\ (0=0/\ ([(AJ-1)]:List Int).length=([(AJ-1)]:List Int).length)/\ ([(AJ-1)]:List Int).length+([(AJ+1)]:List Int).length<=Ax then
      if ([(AJ-1)]:List Int).length+([(AJ+1)]:List Int).length=(([(AJ-1)]:List Int)++([(AJ+1)]:List Int)).length then
       if CB=o5.length/\ o5.length+([([(AJ-1)]:List Int)++([(AJ+1)]:List Int)]:List (List Int)).length<=Ax/\ ((0=0/\ 1=([AJ]:List Int).length)/\ (0=0/\ Bn=o1.length)/\ o1.length+([AJ]:List Int).length<=Ax)/\ AL (AJ+1) then
        self (.l6 (AJ+1) (o1.length+([AJ]:List Int).length) (o1++([AJ]:List Int)) Ec (o5.length+([([(AJ-1)]:List Int)++([(AJ+1)]:List Int)]:List (List Int)).length) EM (o5++([([(AJ-1)]:List Int)++([(AJ+1)]:List Int)]:List (List Int))))
       else none
      else none
     else none
    else
     if CB=o5.length/\ o5.length+([([(AJ-1)]:List Int)]:List (List Int)).length<=Ax/\ ((0=0/\ 1=([AJ]:List Int).length)/\ (0=0/\ Bn=o1.length)/\ o1.length+([AJ]:List Int).length<=Ax)/\ AL (AJ+1) then
      self (.l6 (AJ+1) (o1.length+([AJ]:List Int).length) (o1++([AJ]:List Int)) Ec (o5.length+([([(AJ-1)]:List Int)]:List (List Int)).length) EM (o5++([([(AJ-1)]:List Int)]:List (List Int))))
     else none
   else none
  else
   if AL (AJ+1) then
    bif (decide ((AJ+1)<AR)) then
     if (0=0/\ 1=([(AJ+1)]:List Int).length)/\ 0<([(AJ+1)]:List Int).length/\ ([(AJ+1)]:List Int).length<=Ax then
      if CB=o5.length/\ o5.length+([([(AJ+1)]:List Int)]:List (List Int)).length<=Ax/\ ((0=0/\ 1=([AJ]:List Int).length)/\ (0=0/\ Bn=o1.length)/\ o1.length+([AJ]:List Int).length<=Ax)/\ AL (AJ+1) then
       self (.l6 (AJ+1) (o1.length+([AJ]:List Int).length) (o1++([AJ]:List Int)) Ec (o5.length+([([(AJ+1)]:List Int)]:List (List Int)).length) EM (o5++([([(AJ+1)]:List Int)]:List (List Int))))
      else none
     else none
    else
     if CB=o5.length/\ o5.length+([([]:List Int)]:List (List Int)).length<=Ax/\ ((0=0/\ 1=([AJ]:List Int).length)/\ (0=0/\ Bn=o1.length)/\ o1.length+([AJ]:List Int).length<=Ax) then
      self (.l6 (AJ+1) (o1.length+([AJ]:List Int).length) (o1++([AJ]:List Int)) Ec (o5.length+([([]:List Int)]:List (List Int)).length) EM (o5++([([]:List Int)]:List (List Int))))
     else none
   else none
 else
  if Bn=o1.length then
   if Ec=EM.length/\ CB=o5.length then
    some (⟨AR,Ai,EM,o5,([(⟨kd,o1,st,Aw,lo,hi,rn,rl,Av⟩:AB)]:List AB)⟩:AA)
   else none
  else none
def qG (n:Nat) (self:Jp -> Option AA) (AR Ai kd st Aw lo hi:Int) (rn:List Int) (rl Av:Int):Option AA:=
 self (.l1)
def Kx (AR Ai kd st Aw lo hi:Int) (rn:List Int) (rl Av:Int):Nat -> Jp -> Option AA
 | 0,_=>none
 | n+1,.l1=>qF n (Kx AR Ai kd st Aw lo hi rn rl Av n) AR Ai kd st Aw lo hi rn rl Av
 | n+1,.l2 BX D7 o3=>qE n (Kx AR Ai kd st Aw lo hi rn rl Av n) AR Ai kd st Aw lo hi rn rl Av BX D7 o3
 | n+1,.l3=>qD n (Kx AR Ai kd st Aw lo hi rn rl Av n) AR Ai kd st Aw lo hi rn rl Av
 | n+1,.l4 D7 o3=>qC n (Kx AR Ai kd st Aw lo hi rn rl Av n) AR Ai kd st Aw lo hi rn rl Av D7 o3
 | n+1,.l5 AJ Bn o1 CB o4=>qB n (Kx AR Ai kd st Aw lo hi rn rl Av n) AR Ai kd st Aw lo hi rn rl Av AJ Bn o1 CB o4
 | n+1,.l6 AJ Bn o1 Ec CB EM o5=>qA n (Kx AR Ai kd st Aw lo hi rn rl Av n) AR Ai kd st Aw lo hi rn rl Av AJ Bn o1 Ec CB EM o5
def GM (n:Nat) (AR Ai kd st Aw lo hi:Int) (rn:List Int) (rl Av:Int):Option AA:=qG n (Kx AR Ai kd st Aw lo hi rn rl Av n) AR Ai kd st Aw lo hi rn rl Av
def qH (n B:Nat) (N:Yd 0) (AR Ai kd st Aw lo hi:Int) (rn:List Int) (rl Av:Int) (r:AA):Jp -> Prop
 | .l1=>∀ m0:Nat,n<=m0 -> TW B N (FQ Tryz.f51 0 (.agg 5 (L1 (AE r))) []) (A4 m0 (BF (Ab Tryz.f51) 0 [])) ⟨AM 63 [(0,.i AR),(5,.ref 0 0),(6,.ref 1 0),(7,.ref 2 0),(14,.i Ai),(15,.i 0)],[some (.cells [.i kd,.nils,.i st,.i Aw,.i lo,.i hi,.ints rn,.i rl,.i Av]),some (.cells [.i 0,.i 0,.nils,.nils,.nils]),some (.cells [.i AR,.i Ai,.nils,.nils,.nils])]⟩
 | .l2 BX D7 o3=>∀ m0:Nat,n<=m0 -> TW B N (FQ Tryz.f51 0 (.agg 5 (L1 (AE r))) []) (A4 m0 (BF (Ab Tryz.f51) 0 [])) ⟨AM 63 [(0,.i AR),(5,.ref 0 0),(6,.ref 1 0),(7,.ref 2 0),(14,.i Ai),(15,.i BX)],[some (.cells [.i kd,.nils,.i st,.i Aw,.i lo,.i hi,.ints rn,.i rl,.i Av]),some (.cells [.i 0,.i 0,.nils,.nils,.nils]),some (.cells [.i AR,.i Ai,.msl 3 1 0 D7,.nils,.nils]),some (.ints o3)]⟩
 | .l3=>∀ m0:Nat,n<=m0 -> TW B N (FQ Tryz.f51 0 (.agg 5 (L1 (AE r))) []) (A4 m0 (BF (Ab Tryz.f51) 2 [])) ⟨AM 63 [(0,.i AR),(5,.ref 0 0),(6,.ref 1 0),(7,.ref 2 0),(26,.i AR),(27,.i 0)],[some (.cells [.i kd,.nils,.i st,.i Aw,.i lo,.i hi,.ints rn,.i rl,.i Av]),some (.cells [.i 0,.i 0,.nils,.nils,.nils]),some (.cells [.i AR,.i Ai,.nils,.nils,.nils])]⟩
 | .l4 D7 o3=>∀ m0:Nat,n<=m0 -> TW B N (FQ Tryz.f51 0 (.agg 5 (L1 (AE r))) []) (A4 m0 (BF (Ab Tryz.f51) 2 [])) ⟨AM 63 [(0,.i AR),(5,.ref 0 0),(6,.ref 1 0),(7,.ref 2 0),(26,.i AR),(27,.i 0)],[some (.cells [.i kd,.nils,.i st,.i Aw,.i lo,.i hi,.ints rn,.i rl,.i Av]),some (.cells [.i 0,.i 0,.nils,.nils,.nils]),some (.cells [.i AR,.i Ai,.msl 3 1 0 D7,.nils,.nils]),some (.ints o3)]⟩
 | .l5 AJ Bn o1 CB o4=>∀ m0:Nat,n<=m0 -> TW B N (FQ Tryz.f51 0 (.agg 5 (L1 (AE r))) []) (A4 m0 (BF (Ab Tryz.f51) 2 [])) ⟨AM 63 [(0,.i AR),(5,.ref 0 0),(6,.ref 2 0),(7,.ref 3 0),(26,.i AR),(27,.i AJ)],[some (.cells [.i kd,.msl 1 1 0 Bn,.i st,.i Aw,.i lo,.i hi,.ints rn,.i rl,.i Av]),some (.ints o1),some (.cells [.i 0,.i 0,.nils,.nils,.nils]),some (.cells [.i AR,.i Ai,.nils,.msl 4 1 0 CB,.nils]),some (.arr 1 o4.length (Aq At o4))]⟩
 | .l6 AJ Bn o1 Ec CB EM o5=>∀ m0:Nat,n<=m0 -> TW B N (FQ Tryz.f51 0 (.agg 5 (L1 (AE r))) []) (A4 m0 (BF (Ab Tryz.f51) 2 [])) ⟨AM 63 [(0,.i AR),(5,.ref 0 0),(6,.ref 2 0),(7,.ref 3 0),(26,.i AR),(27,.i AJ)],[some (.cells [.i kd,.msl 1 1 0 Bn,.i st,.i Aw,.i lo,.i hi,.ints rn,.i rl,.i Av]),some (.ints o1),some (.cells [.i 0,.i 0,.nils,.nils,.nils]),some (.cells [.i AR,.i Ai,.msl 4 1 0 Ec,.msl 5 1 0 CB,.nils]),some (.ints EM),some (.arr 1 o5.length (Aq At o5))]⟩
theorem qI (B:Nat) (N:Yd 0) (AR Ai kd st Aw lo hi:Int) (rn:List Int) (rl Av:Int):Al (Kx AR Ai kd st Aw lo hi rn rl Av) (qH · B N AR Ai kd st Aw lo hi rn rl Av):=ia (fun _=>rfl) fun n AH pt r h=>by
 cases pt
 case l1=>
  intro m0 AC;refine rd AC fun m0 AC=>?_
  revert r;apply gO;exact bi 16 (jg (by decide:(0=0/\ 1=([1]:List Int).length)/\ 0<([1]:List Int).length/\ ([1]:List Int).length<=Ax) (jt (lG AF [0,1,2,4] (AH _ _ · m0 AC)))) (lN AF [0,1,2] (AH _ _ · n Nat.le.refl))
 case l2 BX D7 o3=>
  intro m0 AC;refine rd AC fun m0 AC=>?_
  revert r;apply gO;exact bi 16 (gc (gn fun g0=>jw 21 g0 (gi (jt (jw 25 g0 (lG AF [0,1,2,5] (AH _ _ · m0 AC))))))) (lN AF [0,1,2,3] (AH _ _ · n Nat.le.refl))
 case l3=>
  intro m0 AC;refine rd AC fun m0 AC=>?_
  revert r;apply gO
  exact bi 28 (bi 40 (jg (by decide:(0=0/\ 1=([1]:List Int).length)/\ 0<([1]:List Int).length/\ ([1]:List Int).length<=Ax) (fun p r h=>by
   refine gz (AI 15 AF) [0,1,2,4] p [3] (H0.g (Eq.refl (([1]:List Int).length))) (CW (Ab Tryz.f51) 15 [m0]) (AM 63 [(0,.i AR),(5,.ref 0 0),(6,.ref 1 0),(7,.ref 2 0),(9,.i 0),(10,.ints ([1]:List Int)),(26,.i AR),(27,.i 0)]) (tj kd st Aw lo hi rn rl Av AR Ai) ?_;revert r;apply gO;exact ja 49 4 1 (DQ (c:=At) (L:=([([1]:List Int)]:List (List Int))) (vals:=[.ints ([1]:List Int)]) rfl ⟨⟨_,rfl,⟨AK,trivial⟩⟩,trivial⟩) (jg (And.intro (And.intro (And.intro (Eq.refl 0) (by decide:1=([([1]:List Int)]:List (List Int)).length)) (Fy At ([([1]:List Int)]:List (List Int)) (([([1]:List Int)]:List (List Int)).length) 1 fun _=>⟨rfl,rfl⟩)) (And.intro (by decide:0<([([1]:List Int)]:List (List Int)).length) (by decide:([([1]:List Int)]:List (List Int)).length<=Ax))) (jt (jg (by decide:(0=0/\ 1=([0]:List Int).length)/\ 0<([0]:List Int).length/\ ([0]:List Int).length<=Ax) (jt (lG AF [0,7,1,2,5] (AH _ _ · m0 AC)))))))) (ja 49 3 1 (DQ (c:=At) (L:=([([]:List Int)]:List (List Int))) (vals:=[.nils]) rfl ⟨⟨_,rfl,⟨AS.ints_nil,trivial⟩⟩,trivial⟩) (jg (And.intro (And.intro (And.intro (Eq.refl 0) (by decide:1=([([]:List Int)]:List (List Int)).length)) (Fy At ([([]:List Int)]:List (List Int)) (([([]:List Int)]:List (List Int)).length) 1 fun _=>⟨rfl,rfl⟩)) (And.intro (by decide:0<([([]:List Int)]:List (List Int)).length) (by decide:([([]:List Int)]:List (List Int)).length<=Ax))) (jt (jg (by decide:(0=0/\ 1=([0]:List Int).length)/\ 0<([0]:List Int).length/\ ([0]:List Int).length<=Ax) (jt (lG AF [0,6,1,2,4] (AH _ _ · m0 AC)))))))) (ja 60 3 9 (DQ (c:=AG) (L:=([(⟨kd,([]:List Int),st,Aw,lo,hi,rn,rl,Av⟩:AB)]:List AB)) (vals:=[.agg 9 (L1 [.i kd,.nils,.i st,.i Aw,.i lo,.i hi,.ints rn,.i rl,.i Av])]) rfl ⟨⟨_,rfl,⟨AK,AS.ints_nil,AK,AK,AK,AK,AK,AK,AK,trivial⟩⟩,trivial⟩) (jt (jt (lF fun p=>el AF [6] [1,3] p [1] (H0.g (Eq.refl 1)) [.agg 5 (L1 [.i AR,.i Ai,.nils,.nils,.sl 9 (([(⟨kd,([]:List Int),st,Aw,lo,hi,rn,rl,Av⟩:AB)]:List AB).length) (Aq AG ([(⟨kd,([]:List Int),st,Aw,lo,hi,rn,rl,Av⟩:AB)]:List AB))])] (AS.aggL (l:=[.i AR,.i Ai,.nils,.nils,.sl 9 (([(⟨kd,([]:List Int),st,Aw,lo,hi,rn,rl,Av⟩:AB)]:List AB).length) (Aq AG ([(⟨kd,([]:List Int),st,Aw,lo,hi,rn,rl,Av⟩:AB)]:List AB))]) (l':=[.i AR,.i Ai,.ints ([]:List Int),.sl 1 (([]:List (List Int)).length) (Aq At ([]:List (List Int))),.sl 9 (([(⟨kd,([]:List Int),st,Aw,lo,hi,rn,rl,Av⟩:AB)]:List AB).length) (Aq AG ([(⟨kd,([]:List Int),st,Aw,lo,hi,rn,rl,Av⟩:AB)]:List AB))]) rfl ⟨AK,AK,AS.ints_nil,(AS.sl_nil _ _),AK,trivial⟩)))))
 case l4 D7 o3=>
  intro m0 AC;refine rd AC fun m0 AC=>?_
  revert r;apply gO
  exact bi 28 (bi 40 (jg (by decide:(0=0/\ 1=([1]:List Int).length)/\ 0<([1]:List Int).length/\ ([1]:List Int).length<=Ax) (fun p r h=>by
   refine gz (AI 15 AF) [0,1,2,3,5] p [4] (H0.g (Eq.refl (([1]:List Int).length))) (CW (Ab Tryz.f51) 15 [m0]) (AM 63 [(0,.i AR),(5,.ref 0 0),(6,.ref 1 0),(7,.ref 2 0),(9,.i 0),(10,.ints ([1]:List Int)),(26,.i AR),(27,.i 0)]) (tf kd st Aw lo hi rn rl Av AR Ai D7 o3) ?_;revert r;apply gO;exact ja 49 5 1 (DQ (c:=At) (L:=([([1]:List Int)]:List (List Int))) (vals:=[.ints ([1]:List Int)]) rfl ⟨⟨_,rfl,⟨AK,trivial⟩⟩,trivial⟩) (jg (And.intro (And.intro (And.intro (Eq.refl 0) (by decide:1=([([1]:List Int)]:List (List Int)).length)) (Fy At ([([1]:List Int)]:List (List Int)) (([([1]:List Int)]:List (List Int)).length) 1 fun _=>⟨rfl,rfl⟩)) (And.intro (by decide:0<([([1]:List Int)]:List (List Int)).length) (by decide:([([1]:List Int)]:List (List Int)).length<=Ax))) (jt (jg (by decide:(0=0/\ 1=([0]:List Int).length)/\ 0<([0]:List Int).length/\ ([0]:List Int).length<=Ax) (jt (lG AF [0,8,1,2,3,6] (AH _ _ · m0 AC)))))))) (ja 49 4 1 (DQ (c:=At) (L:=([([]:List Int)]:List (List Int))) (vals:=[.nils]) rfl ⟨⟨_,rfl,⟨AS.ints_nil,trivial⟩⟩,trivial⟩) (jg (And.intro (And.intro (And.intro (Eq.refl 0) (by decide:1=([([]:List Int)]:List (List Int)).length)) (Fy At ([([]:List Int)]:List (List Int)) (([([]:List Int)]:List (List Int)).length) 1 fun _=>⟨rfl,rfl⟩)) (And.intro (by decide:0<([([]:List Int)]:List (List Int)).length) (by decide:([([]:List Int)]:List (List Int)).length<=Ax))) (jt (jg (by decide:(0=0/\ 1=([0]:List Int).length)/\ 0<([0]:List Int).length/\ ([0]:List Int).length<=Ax) (jt (lG AF [0,7,1,2,3,5] (AH _ _ · m0 AC)))))))) (ja 60 4 9 (DQ (c:=AG) (L:=([(⟨kd,([]:List Int),st,Aw,lo,hi,rn,rl,Av⟩:AB)]:List AB)) (vals:=[.agg 9 (L1 [.i kd,.nils,.i st,.i Aw,.i lo,.i hi,.ints rn,.i rl,.i Av])]) rfl ⟨⟨_,rfl,⟨AK,AS.ints_nil,AK,AK,AK,AK,AK,AK,AK,trivial⟩⟩,trivial⟩) (jt (jt (gn fun g0=>lF fun p=>el AF [6] [1,3,4] p [1,2] (H0.g g0 |>.g (Eq.refl 1)) [.agg 5 (L1 [.i AR,.i Ai,.ints o3,.nils,.sl 9 (([(⟨kd,([]:List Int),st,Aw,lo,hi,rn,rl,Av⟩:AB)]:List AB).length) (Aq AG ([(⟨kd,([]:List Int),st,Aw,lo,hi,rn,rl,Av⟩:AB)]:List AB))])] (AS.aggL (l:=[.i AR,.i Ai,.ints o3,.nils,.sl 9 (([(⟨kd,([]:List Int),st,Aw,lo,hi,rn,rl,Av⟩:AB)]:List AB).length) (Aq AG ([(⟨kd,([]:List Int),st,Aw,lo,hi,rn,rl,Av⟩:AB)]:List AB))]) (l':=[.i AR,.i Ai,.ints o3,.sl 1 (([]:List (List Int)).length) (Aq At ([]:List (List Int))),.sl 9 (([(⟨kd,([]:List Int),st,Aw,lo,hi,rn,rl,Av⟩:AB)]:List AB).length) (Aq AG ([(⟨kd,([]:List Int),st,Aw,lo,hi,rn,rl,Av⟩:AB)]:List AB))]) rfl ⟨AK,AK,AK,(AS.sl_nil _ _),AK,trivial⟩)))))
 case l5 AJ Bn o1 CB o4=>
  intro m0 AC;refine rd AC fun m0 AC=>?_
  revert r;apply gO
  exact bi 28 (bi 31 (gc (gw 34 (gc (gi (gn fun g2=>jw 38 g2 (bi 40 (jw 43 g2 (gi (gn fun g4=>fun p r h=>by
   refine gz (AI 15 AF) [0,1,2,3,4,8] p [5] (H0.g g4) (CW (Ab Tryz.f51) 15 [m0]) (AM 63 [(0,.i AR),(5,.ref 0 0),(6,.ref 2 0),(7,.ref 3 0),(9,.i AJ),(10,.ints (([(AJ-1)]:List Int)++([(AJ+1)]:List Int))),(26,.i AR),(27,.i AJ)]) (Xc kd Bn st Aw lo hi rn rl Av o1 AR Ai CB o4) ?_;revert r;apply gO;exact ja 49 6 1 (DQ (c:=At) (L:=([([(AJ-1)]:List Int)++([(AJ+1)]:List Int)]:List (List Int))) (vals:=[.ints (([(AJ-1)]:List Int)++([(AJ+1)]:List Int))]) rfl ⟨⟨_,rfl,⟨AK,trivial⟩⟩,trivial⟩) (gc (gn fun g5=>gc (gn fun g6=>jg (And.intro (And.intro (And.intro (Eq.refl 0) (Eq.refl 1)) (Fy At ([([(AJ-1)]:List Int)++([(AJ+1)]:List Int)]:List (List Int)) (([([(AJ-1)]:List Int)++([(AJ+1)]:List Int)]:List (List Int)).length) 1 fun _=>⟨rfl,rfl⟩)) (And.intro (And.intro (Eq.refl 0) g5) g6)) (ja 50 7 1 (Ig (enc:=(JC At)) (L:=o4) (L':=([([(AJ-1)]:List Int)++([(AJ+1)]:List Int)]:List (List Int))) rfl rfl fun _ _ _ _=>AK) (jt (gc (gi (jt (gw 58 (lG AF [0,9,2,3,7] (AH _ _ · m0 AC)))))))))))))) (fun p r h=>by
   refine gz (AI 15 AF) [0,1,2,3,4,6] p [5] (H0.g (Eq.refl (([(AJ-1)]:List Int).length))) (CW (Ab Tryz.f51) 15 [m0]) (AM 63 [(0,.i AR),(5,.ref 0 0),(6,.ref 2 0),(7,.ref 3 0),(9,.i AJ),(10,.ints ([(AJ-1)]:List Int)),(26,.i AR),(27,.i AJ)]) (Xc kd Bn st Aw lo hi rn rl Av o1 AR Ai CB o4) ?_;revert r;apply gO;exact ja 49 6 1 (DQ (c:=At) (L:=([([(AJ-1)]:List Int)]:List (List Int))) (vals:=[.ints ([(AJ-1)]:List Int)]) rfl ⟨⟨_,rfl,⟨AK,trivial⟩⟩,trivial⟩) (gc (gn fun g3=>gc (gn fun g4=>jg (And.intro (And.intro (And.intro (Eq.refl 0) (Eq.refl 1)) (Fy At ([([(AJ-1)]:List Int)]:List (List Int)) (([([(AJ-1)]:List Int)]:List (List Int)).length) 1 fun _=>⟨rfl,rfl⟩)) (And.intro (And.intro (Eq.refl 0) g3) g4)) (ja 50 7 1 (Ig (enc:=(JC At)) (L:=o4) (L':=([([(AJ-1)]:List Int)]:List (List Int))) rfl rfl fun _ _ _ _=>AK) (jt (gc (gi (jt (gw 58 (lG AF [0,9,2,3,7] (AH _ _ · m0 AC)))))))))))))))))) (gn fun g0=>jw 38 g0 (bi 40 (jw 43 g0 (gi (fun p r h=>by
   refine gz (AI 15 AF) [0,1,2,3,4,6] p [5] (H0.g (Eq.refl (([(AJ+1)]:List Int).length))) (CW (Ab Tryz.f51) 15 [m0]) (AM 63 [(0,.i AR),(5,.ref 0 0),(6,.ref 2 0),(7,.ref 3 0),(9,.i AJ),(10,.ints ([(AJ+1)]:List Int)),(26,.i AR),(27,.i AJ)]) (Xc kd Bn st Aw lo hi rn rl Av o1 AR Ai CB o4) ?_;revert r;apply gO;exact ja 49 6 1 (DQ (c:=At) (L:=([([(AJ+1)]:List Int)]:List (List Int))) (vals:=[.ints ([(AJ+1)]:List Int)]) rfl ⟨⟨_,rfl,⟨AK,trivial⟩⟩,trivial⟩) (gc (gn fun g2=>gc (gn fun g3=>jg (And.intro (And.intro (And.intro (Eq.refl 0) (Eq.refl 1)) (Fy At ([([(AJ+1)]:List Int)]:List (List Int)) (([([(AJ+1)]:List Int)]:List (List Int)).length) 1 fun _=>⟨rfl,rfl⟩)) (And.intro (And.intro (Eq.refl 0) g2) g3)) (ja 50 7 1 (Ig (enc:=(JC At)) (L:=o4) (L':=([([(AJ+1)]:List Int)]:List (List Int))) rfl rfl fun _ _ _ _=>AK) (jt (gc (gi (jt (gw 58 (lG AF [0,9,2,3,7] (AH _ _ · m0 AC)))))))))))))) (ja 49 5 1 (DQ (c:=At) (L:=([([]:List Int)]:List (List Int))) (vals:=[.nils]) rfl ⟨⟨_,rfl,⟨AS.ints_nil,trivial⟩⟩,trivial⟩) (gc (gn fun g1=>gc (gn fun g2=>jg (And.intro (And.intro (And.intro (Eq.refl 0) (by decide:1=([([]:List Int)]:List (List Int)).length)) (Fy At ([([]:List Int)]:List (List Int)) (([([]:List Int)]:List (List Int)).length) 1 fun _=>⟨rfl,rfl⟩)) (And.intro (And.intro (Eq.refl 0) g1) g2)) (ja 50 6 1 (Ig (enc:=(JC At)) (L:=o4) (L':=([([]:List Int)]:List (List Int))) rfl rfl fun _ _ _ _=>AK) (jt (gi (jt (jw 58 g0 (lG AF [0,8,2,3,6] (AH _ _ · m0 AC)))))))))))))) (gn fun g0=>fun p r h=>by
   refine gz (AI 18 AF) [0,1,2,3,4] p [1] (H0.g g0) (CW (Ab Tryz.f51) 18 []) (AM 63 [(5,.ref 0 0),(6,.ref 2 0),(7,.ref 3 0)]) (te kd o1 st Aw lo hi rn rl Av AR Ai CB o4) ?_;revert r;apply gO;exact ja 60 5 9 (DQ (c:=AG) (L:=([(⟨kd,o1,st,Aw,lo,hi,rn,rl,Av⟩:AB)]:List AB)) (vals:=[.agg 9 (L1 [.i kd,.ints o1,.i st,.i Aw,.i lo,.i hi,.ints rn,.i rl,.i Av])]) rfl ⟨⟨_,rfl,⟨AK,AK,AK,AK,AK,AK,AK,AK,AK,trivial⟩⟩,trivial⟩) (jt (jt (gn fun g1=>lF fun p=>el AF [6] [2,4,5] p [1,2] (H0.g g1 |>.g (Eq.refl 1)) [.agg 5 (L1 [.i AR,.i Ai,.nils,.sl 1 o4.length (Aq At o4),.sl 9 (([(⟨kd,o1,st,Aw,lo,hi,rn,rl,Av⟩:AB)]:List AB).length) (Aq AG ([(⟨kd,o1,st,Aw,lo,hi,rn,rl,Av⟩:AB)]:List AB))])] (AS.aggL (l:=[.i AR,.i Ai,.nils,.sl 1 o4.length (Aq At o4),.sl 9 (([(⟨kd,o1,st,Aw,lo,hi,rn,rl,Av⟩:AB)]:List AB).length) (Aq AG ([(⟨kd,o1,st,Aw,lo,hi,rn,rl,Av⟩:AB)]:List AB))]) (l':=[.i AR,.i Ai,.ints ([]:List Int),.sl 1 o4.length (Aq At o4),.sl 9 (([(⟨kd,o1,st,Aw,lo,hi,rn,rl,Av⟩:AB)]:List AB).length) (Aq AG ([(⟨kd,o1,st,Aw,lo,hi,rn,rl,Av⟩:AB)]:List AB))]) rfl ⟨AK,AK,AS.ints_nil,AK,AK,trivial⟩)))))
 case l6 AJ Bn o1 Ec CB EM o5=>
  intro m0 AC;refine rd AC fun m0 AC=>?_
  revert r;apply gO
  exact bi 28 (bi 31 (gc (gw 34 (gc (gi (gn fun g2=>jw 38 g2 (bi 40 (jw 43 g2 (gi (gn fun g4=>fun p r h=>by
   refine gz (AI 15 AF) [0,1,2,3,4,5,9] p [6] (H0.g g4) (CW (Ab Tryz.f51) 15 [m0]) (AM 63 [(0,.i AR),(5,.ref 0 0),(6,.ref 2 0),(7,.ref 3 0),(9,.i AJ),(10,.ints (([(AJ-1)]:List Int)++([(AJ+1)]:List Int))),(26,.i AR),(27,.i AJ)]) (Xb kd Bn st Aw lo hi rn rl Av o1 AR Ai Ec CB EM o5) ?_;revert r;apply gO;exact ja 49 7 1 (DQ (c:=At) (L:=([([(AJ-1)]:List Int)++([(AJ+1)]:List Int)]:List (List Int))) (vals:=[.ints (([(AJ-1)]:List Int)++([(AJ+1)]:List Int))]) rfl ⟨⟨_,rfl,⟨AK,trivial⟩⟩,trivial⟩) (gc (gn fun g5=>gc (gn fun g6=>jg (And.intro (And.intro (And.intro (Eq.refl 0) (Eq.refl 1)) (Fy At ([([(AJ-1)]:List Int)++([(AJ+1)]:List Int)]:List (List Int)) (([([(AJ-1)]:List Int)++([(AJ+1)]:List Int)]:List (List Int)).length) 1 fun _=>⟨rfl,rfl⟩)) (And.intro (And.intro (Eq.refl 0) g5) g6)) (ja 50 8 1 (Ig (enc:=(JC At)) (L:=o5) (L':=([([(AJ-1)]:List Int)++([(AJ+1)]:List Int)]:List (List Int))) rfl rfl fun _ _ _ _=>AK) (jt (gc (gi (jt (gw 58 (lG AF [0,10,2,3,4,8] (AH _ _ · m0 AC)))))))))))))) (fun p r h=>by
   refine gz (AI 15 AF) [0,1,2,3,4,5,7] p [6] (H0.g (Eq.refl (([(AJ-1)]:List Int).length))) (CW (Ab Tryz.f51) 15 [m0]) (AM 63 [(0,.i AR),(5,.ref 0 0),(6,.ref 2 0),(7,.ref 3 0),(9,.i AJ),(10,.ints ([(AJ-1)]:List Int)),(26,.i AR),(27,.i AJ)]) (Xb kd Bn st Aw lo hi rn rl Av o1 AR Ai Ec CB EM o5) ?_;revert r;apply gO;exact ja 49 7 1 (DQ (c:=At) (L:=([([(AJ-1)]:List Int)]:List (List Int))) (vals:=[.ints ([(AJ-1)]:List Int)]) rfl ⟨⟨_,rfl,⟨AK,trivial⟩⟩,trivial⟩) (gc (gn fun g3=>gc (gn fun g4=>jg (And.intro (And.intro (And.intro (Eq.refl 0) (Eq.refl 1)) (Fy At ([([(AJ-1)]:List Int)]:List (List Int)) (([([(AJ-1)]:List Int)]:List (List Int)).length) 1 fun _=>⟨rfl,rfl⟩)) (And.intro (And.intro (Eq.refl 0) g3) g4)) (ja 50 8 1 (Ig (enc:=(JC At)) (L:=o5) (L':=([([(AJ-1)]:List Int)]:List (List Int))) rfl rfl fun _ _ _ _=>AK) (jt (gc (gi (jt (gw 58 (lG AF [0,10,2,3,4,8] (AH _ _ · m0 AC)))))))))))))))))) (gn fun g0=>jw 38 g0 (bi 40 (jw 43 g0 (gi (fun p r h=>by
   refine gz (AI 15 AF) [0,1,2,3,4,5,7] p [6] (H0.g (Eq.refl (([(AJ+1)]:List Int).length))) (CW (Ab Tryz.f51) 15 [m0]) (AM 63 [(0,.i AR),(5,.ref 0 0),(6,.ref 2 0),(7,.ref 3 0),(9,.i AJ),(10,.ints ([(AJ+1)]:List Int)),(26,.i AR),(27,.i AJ)]) (Xb kd Bn st Aw lo hi rn rl Av o1 AR Ai Ec CB EM o5) ?_;revert r;apply gO;exact ja 49 7 1 (DQ (c:=At) (L:=([([(AJ+1)]:List Int)]:List (List Int))) (vals:=[.ints ([(AJ+1)]:List Int)]) rfl ⟨⟨_,rfl,⟨AK,trivial⟩⟩,trivial⟩) (gc (gn fun g2=>gc (gn fun g3=>jg (And.intro (And.intro (And.intro (Eq.refl 0) (Eq.refl 1)) (Fy At ([([(AJ+1)]:List Int)]:List (List Int)) (([([(AJ+1)]:List Int)]:List (List Int)).length) 1 fun _=>⟨rfl,rfl⟩)) (And.intro (And.intro (Eq.refl 0) g2) g3)) (ja 50 8 1 (Ig (enc:=(JC At)) (L:=o5) (L':=([([(AJ+1)]:List Int)]:List (List Int))) rfl rfl fun _ _ _ _=>AK) (jt (gc (gi (jt (gw 58 (lG AF [0,10,2,3,4,8] (AH _ _ · m0 AC)))))))))))))) (ja 49 6 1 (DQ (c:=At) (L:=([([]:List Int)]:List (List Int))) (vals:=[.nils]) rfl ⟨⟨_,rfl,⟨AS.ints_nil,trivial⟩⟩,trivial⟩) (gc (gn fun g1=>gc (gn fun g2=>jg (And.intro (And.intro (And.intro (Eq.refl 0) (by decide:1=([([]:List Int)]:List (List Int)).length)) (Fy At ([([]:List Int)]:List (List Int)) (([([]:List Int)]:List (List Int)).length) 1 fun _=>⟨rfl,rfl⟩)) (And.intro (And.intro (Eq.refl 0) g1) g2)) (ja 50 7 1 (Ig (enc:=(JC At)) (L:=o5) (L':=([([]:List Int)]:List (List Int))) rfl rfl fun _ _ _ _=>AK) (jt (gi (jt (jw 58 g0 (lG AF [0,9,2,3,4,7] (AH _ _ · m0 AC)))))))))))))) (gn fun g0=>fun p r h=>by
   refine gz (AI 18 AF) [0,1,2,3,4,5] p [1] (H0.g g0) (CW (Ab Tryz.f51) 18 []) (AM 63 [(5,.ref 0 0),(6,.ref 2 0),(7,.ref 3 0)]) (tc kd o1 st Aw lo hi rn rl Av AR Ai Ec CB EM o5) ?_;revert r;apply gO;exact ja 60 6 9 (DQ (c:=AG) (L:=([(⟨kd,o1,st,Aw,lo,hi,rn,rl,Av⟩:AB)]:List AB)) (vals:=[.agg 9 (L1 [.i kd,.ints o1,.i st,.i Aw,.i lo,.i hi,.ints rn,.i rl,.i Av])]) rfl ⟨⟨_,rfl,⟨AK,AK,AK,AK,AK,AK,AK,AK,AK,trivial⟩⟩,trivial⟩) (jt (jt (gc (gn fun g1=>gn fun g2=>lF fun p=>ez AF [6] [2,4,5,6] p [1,2,3] (H0.g g1 |>.g g2 |>.g (Eq.refl 1)))))))
theorem Gp {n:Nat} {AR Ai kd st Aw lo hi:Int} {rn:List Int} {rl Av:Int} {r:AA} (h:GM n AR Ai kd st Aw lo hi rn rl Av=some r):EQ 51 [.i AR,.i Ai,.agg 9 (L1 [.i kd,.nils,.i st,.i Aw,.i lo,.i hi,.ints rn,.i rl,.i Av])] [] (.agg 5 (L1 (AE r))) [] true:=by
 refine ot Tryz.func51 fun B N=>?_
 revert r;apply gO;exact jt (lN AF [0,1,2] ((qI B N AR Ai kd st Aw lo hi rn rl Av n) _ _ · n Nat.le.refl))
end Go.Proofs.YtgkhhfnhacibcaaGreatDoor
namespace Go.Proofs.YtgkhhfnhacibcaaGreatDoor
abbrev zAr:=@List.drop_zero
end Go.Proofs.YtgkhhfnhacibcaaGreatDoor
namespace Go.Proofs.YtgkhhfnhacibcaaGreatDoor
open Go.RowKit
set_option maxRecDepth 100000
set_option maxHeartbeats 40000000
def xZ (n:Nat) (s_:List Int):Option Unit:=
 some ()
def xb (n:Nat) (s_:List Int):Option Unit:=xZ n s_
theorem xY {n:Nat} (s_:List Int) {r:Unit} (h:xb n s_=some r):EQ 102 [.ints s_] [] (.fn 120 1 (L1 [.ref 0 0])) [some (.cells [.ints s_])] true:=by
 refine ot Tryz.func102 fun B N=>?_
 revert r;apply gO;exact lE AF [2] [0]
inductive Oi where
 | l1 (x3:Int)
def M5 (n:Nat) (self:Oi -> Option (List (Int×Int))) (s_:List Int) (x3:Int):Option (List (Int×Int)):=
 bif (decide (x3>=0)) then
  if 0<=x3/\ x3<(s_.length:Int) then
   Option.map (fun l=>(x3,s_.getD ((x3).toNat) 0)::l) (
    if AL (x3-1) then
     self (.l1 (x3-1))
    else none)
  else none
 else
  some []
def Yu (n:Nat) (self:Oi -> Option (List (Int×Int))) (s_:List Int):Option (List (Int×Int)):=
 if AL ((s_.length:Int)-1) then
  self (.l1 ((s_.length:Int)-1))
 else none
def LS (s_:List Int):Nat -> Oi -> Option (List (Int×Int))
 | 0,_=>none
 | n+1,.l1 x3=>M5 n (LS s_ n) s_ x3
def back (n:Nat) (s_:List Int):Option (List (Int×Int)):=Yu n (LS s_ n) s_
def Yv (C:C5 Tryz.prog GG) (n:Nat) (s_:List Int) (r:List (Int×Int)):Oi -> Prop
 | .l1 x3=>∀ m0:Nat,n<=m0 -> ∀ i:Nat,i<=C.encs.length -> C.encs.drop i=r.map Mv -> A1 Tryz.prog GG Fence.wide none 1 (C.Y 1 i) (C.Q 1) (A4 m0 (BF (Ab Tryz.f120) 0 [])) ⟨AM 19 [(0,.yl C.l),(1,.ref 0 0),(3,.i x3)],[some (.cells [.ints s_])]⟩
theorem xV (C:C5 Tryz.prog GG) (n:Nat) (self:Oi -> Option (List (Int×Int))) (s_:List Int) (AH: ∀ pt r,self pt=some r -> Yv C n s_ r pt) (x3:Int) (r:List (Int×Int)) (h:M5 n self s_ x3=some r):Yv C (n+1) s_ r (.l1 x3):=by
 intro m0 AC;intro i hi hd;refine rd AC fun m0 AC=>?_
 unfold M5 at h;have p:=H0;rcases GV h with ⟨c0,h⟩ | ⟨c0,h⟩
 ·have p:=H0.b 8 c0;refine gs (AI 3 AF) [0] p (CW (Ab Tryz.f120) 3 [m0]) (AM 19 [(0,.yl C.l),(1,.ref 0 0),(3,.i x3)]) [some (.cells [.ints s_])] ?_;obtain ⟨g0,h⟩:=Dx h;have p:=H0.g g0;obtain ⟨r,h2,rfl⟩:=TF h;clear h;have h:=h2;clear h2;obtain ⟨hx,hi,hd⟩:=UU hd;refine A1.y (ops:=BG Tryz.f120 3) HC.x 6 [0,1,3,18] [0] p (x:=Mv (x3,s_.getD ((x3).toNat) 0)) (AM 19 [(0,.yl C.l),(1,.ref 0 0),(3,.i x3),(18,.bool false)]) [some (.cells [.ints s_])] (AM 19 [(0,.yl C.l),(1,.ref 0 0),(3,.i x3),(18,.bool true)]) [some (.cells [.ints s_])] (by kernel_rfl) (by kernel_rfl) (by kernel_rfl) hx (by kernel_rfl) ?_ ?_
  ·generalize i+1=i at hi hd ⊢
   obtain ⟨g1,h⟩:=Dx h;have p:=H0.w 10 g1;exact gg AF [0] p (AH _ _ h m0 AC i hi hd)
  ·exact TrI.e HC.x AF 6 H0 (by kernel_rfl) (.inr rfl)
 ·have p:=H0.b 8 c0;cases h;exact TrI.e HC.x AF 10 p (by kernel_rfl) (.inl (by rw [Qw hi hd]))
theorem iJ (C:C5 Tryz.prog GG) (s_:List Int): ∀ (n:Nat) (pt:Oi) (r:List (Int×Int)),LS s_ n pt=some r -> Yv C n s_ r pt
 | 0,_,_,h=>by cases h
 | n+1,.l1 x3,r,h=>xV C n (LS s_ n) s_ (iJ C s_ n) x3 r h
theorem xW {n:Nat} (s_:List Int) {r:List (Int×Int)} (h:back n s_=some r) (C:C5 Tryz.prog GG) (hC:C.encs=r.map Mv):A1 Tryz.prog GG Fence.wide none 1 (C.Y 1 0) (C.Q 1) [.code (Ab Tryz.f120)] ⟨AM 19 [(0,.yl C.l),(1,.ref 0 0)],[some (.cells [.ints s_])]⟩:=by
 suffices H: ∀ i:Nat,i<=C.encs.length -> C.encs.drop i=r.map Mv -> A1 Tryz.prog GG Fence.wide none 1 (C.Y 1 i) (C.Q 1) [.code (Ab Tryz.f120)] ⟨AM 19 [(0,.yl C.l),(1,.ref 0 0)],[some (.cells [.ints s_])]⟩ from H 0 (zr _) (by rw [zAr];exact hC)
 intro i hi hd;have AH:=iJ C s_ n;unfold back at h
 generalize LS s_ n=self at h AH
 unfold Yu at h;obtain ⟨g0,h⟩:=Dx h;have p:=H0.w 6 g0;exact gg AF [0] p (en n (AH _ _ h n Nat.le.refl i hi hd))
theorem xa {n:Nat} {s_:List Int} {r:List (Int×Int)} (h:back n s_=some r) (H:DH):EQ 102 [.ints s_] H (.it H.length) (H++[some (.iter (r.map Mv))]) true:=by
 refine ES.iterN (c:=L1 [.ref 0 0]) (h0:=[some (.cells [.ints s_])]) (fn:=Tryz.f120) (xY (n:=0) s_ (r:=()) rfl) (by kernel_rfl) Tryz.func120 (by kernel_rfl) (by kernel_rfl) (by kernel_rfl) (fun C hC=>?_) H;have e:DV.yl C.l::(List.range 1).map (L1 [.ref 0 0])++List.replicate (Tryz.f120.ntmps-(1+1)) .any=AM 19 [(0,.yl C.l),(1,.ref 0 0)]:=by kernel_rfl
 rw [e];exact xW s_ h C hC
end Go.Proofs.YtgkhhfnhacibcaaGreatDoor
namespace Go.Proofs.YtgkhhfnhacibcaaGreatDoor
open Go.RowKit
set_option maxRecDepth 100000
set_option maxHeartbeats 40000000
def np (n:Nat) (g_:List (List Int)) (AT:List Bool) (start:Int):Option Unit:=
 some ()
def nq (n:Nat) (g_:List (List Int)) (AT:List Bool) (start:Int):Option Unit:=np n g_ AT start
theorem nn {n:Nat} (g_:List (List Int)) (AT:List Bool) (start:Int) {r:Unit} (h:nq n g_ AT start=some r):EQ 127 [.sl 1 g_.length (Aq At g_),.bools AT,.i start] [] (.fn 132 3 (L1 [.ref 0 0,.ref 1 0,.ref 2 0])) [some (.cells [.sl 1 g_.length (Aq At g_)]),some (.cells [.i start]),some (.cells [.bools AT])] true:=by
 refine ot Tryz.func127 fun B N=>?_
 revert r;apply gO;exact lE AF [6] [0,2,1]
theorem lW:A0 (BG Tryz.f132 6) [] (List.range 8) []:=by unfold A0;kernel_rfl
def Hp:Bh:=fun i=>match i with
 | 6=>.ord [] (List.range 8) []
 | _=>.no
def Tp (g:List (List Int)) (start:Int) (inn o3:List Bool) (o4:List Int):DH:=[some (.cells [.sl 1 g.length (Aq At g)]),some (.cells [.i start]),some (.cells [.bools inn]),some (.bools o3),some (.ints o4)]
inductive Ij where
 | l1 (x6:Nat) (o3:List Bool) (o4:List Int)
 | l2 (x6:Nat) (C7:List Int) (GF Bt:Int) (o3:List Bool) (o4:List Int)
 | l3 (o3:List Bool)
def Ly (n:Nat) (self:Ij -> Option (List Int)) (g:List (List Int)) (start:Int) (inn:List Bool) (x6:Nat) (o3:List Bool) (o4:List Int):Option (List Int):=
 bif (decide ((x6:Int)>0)) then
  if ((0:Int)<=0/\ 0<(x6:Int))/\ 0+0<o4.length then
   Option.map (fun l=>(o4.getD (0+0) 0)::l) (
    if ((0:Int)<=0/\ 0<(x6:Int))/\ 0+0<o4.length/\ (0<=(o4.getD (0+0) 0)/\ (o4.getD (0+0) 0)<(g.length:Int)) then
     self (.l2 x6 (g.getD ((o4.getD (0+0) 0).toNat) []) (((g.getD ((o4.getD (0+0) 0).toNat) []).length:Nat):Int) 0 o3 o4)
    else none)
  else none
 else
  some []
def Je (n:Nat) (self:Ij -> Option (List Int)) (g:List (List Int)) (start:Int) (inn:List Bool) (x6:Nat) (C7:List Int) (GF Bt:Int) (o3:List Bool) (o4:List Int):Option (List Int):=
 bif (decide (Bt<GF)) then
  if (0<=Bt/\ Bt<(C7.length:Int))/\ (0<=(C7.getD ((Bt).toNat) 0)/\ (C7.getD ((Bt).toNat) 0)<(inn.length:Int)) then
   bif (inn.getD ((C7.getD ((Bt).toNat) 0).toNat) false) then
    if (0<=(C7.getD ((Bt).toNat) 0)/\ (C7.getD ((Bt).toNat) 0)<(g.length:Int))/\ 0+((C7.getD ((Bt).toNat) 0).toNat)<o3.length then
     bif (!(o3.getD (0+((C7.getD ((Bt).toNat) 0).toNat)) false)) then
      if ((0=0/\ 1=([C7.getD ((Bt).toNat) 0]:List Int).length)/\ (0=0/\ x6=o4.length)/\ o4.length+([C7.getD ((Bt).toNat) 0]:List Int).length<=Ax)/\ AL (Bt+1) then
       self (.l2 (o4.length+([C7.getD ((Bt).toNat) 0]:List Int).length) C7 GF (Bt+1) (o3.set (0+((C7.getD ((Bt).toNat) 0).toNat)) true) (o4++([C7.getD ((Bt).toNat) 0]:List Int)))
      else none
     else
      if AL (Bt+1) then
       self (.l2 x6 C7 GF (Bt+1) o3 o4)
      else none
    else none
   else
    if AL (Bt+1) then
     self (.l2 x6 C7 GF (Bt+1) o3 o4)
    else none
  else none
 else
  bif ((x6-1)==0) then
   if (0:Int)<=1/\ (1:Int)<=(x6:Int)/\ (x6:Int)<=(x6:Int) then
    self (.l3 o3)
   else none
  else
   if (0:Int)<=1/\ (1:Int)<=(x6:Int)/\ (x6:Int)<=(x6:Int) then
    if 1<=o4.length then
     self (.l1 (x6-1) o3 (o4.drop 1))
    else none
   else none
def Vy (n:Nat) (self:Ij -> Option (List Int)) (g:List (List Int)) (start:Int) (inn:List Bool) (o3:List Bool):Option (List Int):=
 some []
def Vz (n:Nat) (self:Ij -> Option (List Int)) (g:List (List Int)) (start:Int) (inn:List Bool):Option (List Int):=
 if (((g.length:Int):Int)=(g.length:Int)/\ 0<=(g.length:Int)/\ ((g.length:Int):Int)<=1000000000000)/\ (0<=start/\ start<(g.length:Int))/\ 0+((start).toNat)<(List.replicate g.length false).length then
  self (.l1 1 ((List.replicate g.length false).set (0+((start).toNat)) true) ([start]:List Int))
 else none
def D6 (g:List (List Int)) (start:Int) (inn:List Bool):Nat -> Ij -> Option (List Int)
 | 0,_=>none
 | n+1,.l1 x6 o3 o4=>Ly n (D6 g start inn n) g start inn x6 o3 o4
 | n+1,.l2 x6 C7 GF Bt o3 o4=>Je n (D6 g start inn n) g start inn x6 C7 GF Bt o3 o4
 | n+1,.l3 o3=>Vy n (D6 g start inn n) g start inn o3
def Ft (n:Nat) (g:List (List Int)) (start:Int) (inn:List Bool):Option (List Int):=Vz n (D6 g start inn n) g start inn
def Lz (C:C5 Tryz.prog GG) (n:Nat) (g:List (List Int)) (start:Int) (inn:List Bool) (r:List Int):Ij -> Prop
 | .l1 x6 o3 o4=>∀ m0:Nat,n<=m0 -> ∀ i:Nat,i<=C.encs.length -> C.encs.drop i=r.map BV -> A1 Tryz.prog GG Fence.wide none 3 (C.Y 3 i) (C.Q 3) (A4 m0 (BF (Ab Tryz.f132) 0 [])) ⟨AM 58 [(0,.yl C.l),(1,.ref 0 0),(3,.ref 2 0),(5,.msl 3 1 0 g.length),(6,.msl 4 1 0 x6)],[some (.cells [.sl 1 g.length (Aq At g)]),some (.cells [.i start]),some (.cells [.bools inn]),some (.bools o3),some (.ints o4)]⟩
 | .l2 x6 C7 GF Bt o3 o4=>∀ m0 m1:Nat,n<=m0 -> n<=m1 -> ∀ i:Nat,i<=C.encs.length -> C.encs.drop i=r.map BV -> A1 Tryz.prog GG Fence.wide none 3 (C.Y 3 i) (C.Q 3) (A4 m1 (BF (Ab Tryz.f132) 2 [m0])) ⟨AM 58 [(0,.yl C.l),(1,.ref 0 0),(3,.ref 2 0),(5,.msl 3 1 0 g.length),(6,.msl 4 1 0 x6),(33,.ints C7),(34,.i GF),(35,.i Bt)],[some (.cells [.sl 1 g.length (Aq At g)]),some (.cells [.i start]),some (.cells [.bools inn]),some (.bools o3),some (.ints o4)]⟩
 | .l3 o3=>∀ m0:Nat,n<=m0 -> ∀ i:Nat,i<=C.encs.length -> C.encs.drop i=r.map BV -> A1 Tryz.prog GG Fence.wide none 3 (C.Y 3 i) (C.Q 3) (A4 m0 (BF (Ab Tryz.f132) 0 [])) ⟨AM 58 [(0,.yl C.l),(1,.ref 0 0),(3,.ref 2 0),(5,.msl 3 1 0 g.length),(6,.ints ([]:List Int))],[some (.cells [.sl 1 g.length (Aq At g)]),some (.cells [.i start]),some (.cells [.bools inn]),some (.bools o3)]⟩
theorem nj (C:C5 Tryz.prog GG) (n:Nat) (self:Ij -> Option (List Int)) (g:List (List Int)) (start:Int) (inn:List Bool) (AH: ∀ pt r,self pt=some r -> Lz C n g start inn r pt) (x6:Nat) (o3:List Bool) (o4:List Int) (r:List Int) (h:Ly n self g start inn x6 o3 o4=some r):Lz C (n+1) g start inn r (.l1 x6 o3 o4):=by
 intro m0 AC;intro i hi hd;refine rd AC fun m0 AC=>?_
 unfold Ly at h;have p:=H0;rcases GV h with ⟨c0,h⟩ | ⟨c0,h⟩
 ·have p:=H0.b 19 c0;refine gs (AI 5 Hp) [0,1,2,3,4] p (CW (Ab Tryz.f132) 5 [m0]) (AM 58 [(0,.yl C.l),(1,.ref 0 0),(3,.ref 2 0),(5,.msl 3 1 0 g.length),(6,.msl 4 1 0 x6)]) (Tp g start inn o3 o4) ?_;obtain ⟨⟨g0,g1⟩,h⟩:=Dx h;have p:=H0.g g0 |>.g g1
  obtain ⟨r,h2,rfl⟩:=TF h;clear h;have h:=h2;clear h2;obtain ⟨hx,hi,hd⟩:=UU hd;refine A1.y (ops:=BG Tryz.f132 5) HC.x 4 [0,1,3,5,6,27] [0,1,2,3,4] p (x:=BV (o4.getD (0+0) 0)) (AM 58 [(0,.yl C.l),(1,.ref 0 0),(3,.ref 2 0),(5,.msl 3 1 0 g.length),(6,.msl 4 1 0 x6),(27,.bool false)]) (Tp g start inn o3 o4) (AM 58 [(0,.yl C.l),(1,.ref 0 0),(3,.ref 2 0),(5,.msl 3 1 0 g.length),(6,.msl 4 1 0 x6),(27,.bool true)]) (Tp g start inn o3 o4) (by kernel_rfl) (by kernel_rfl) (by kernel_rfl) hx (by kernel_rfl) ?_ ?_
  ·generalize i+1=i at hi hd ⊢
   obtain ⟨⟨g2,g3,g4⟩,h⟩:=Dx h;have p:=H0.g lW |>.g g2 |>.g g3 |>.g g4
   exact gg Hp [0,1,2,3,4] p (en n (AH _ _ h m0 n AC Nat.le.refl i hi hd))
  ·exact TrI.e HC.x Hp 6 H0 (by kernel_rfl) (.inr rfl)
 ·have p:=H0.b 19 c0;cases h;exact TrI.e HC.x Hp 10 p (by kernel_rfl) (.inl (by rw [Qw hi hd]))
theorem ni (C:C5 Tryz.prog GG) (n:Nat) (self:Ij -> Option (List Int)) (g:List (List Int)) (start:Int) (inn:List Bool) (AH: ∀ pt r,self pt=some r -> Lz C n g start inn r pt) (x6:Nat) (C7:List Int) (GF Bt:Int) (o3:List Bool) (o4:List Int) (r:List Int) (h:Je n self g start inn x6 C7 GF Bt o3 o4=some r):Lz C (n+1) g start inn r (.l2 x6 C7 GF Bt o3 o4):=by
 intro m0 m1 AC A7;intro i hi hd;have AC:=zZ AC;refine rd A7 fun m1 A7=>?_
 unfold Je at h;have p:=H0;rcases GV h with ⟨c0,h⟩ | ⟨c0,h⟩
 ·obtain ⟨⟨g0,g1⟩,h⟩:=Dx h;have p:=H0.b 36 c0 |>.g g0 |>.g g1
  rcases GV h with ⟨c1,h⟩ | ⟨c1,h⟩
  ·obtain ⟨⟨g2,g3⟩,h⟩:=Dx h;have p:=p.b 42 c1 |>.g g2 |>.g g3
   rcases GV h with ⟨c2,h⟩ | ⟨c2,h⟩
   ·obtain ⟨⟨g4,g5⟩,h⟩:=Dx h;have p:=p.b 48 c2 |>.g g2 |>.g g3 |>.g g4 |>.w 57 g5
    exact gg Hp [0,1,2,3,6] p (AH _ _ h m0 m1 AC A7 i hi hd)
   ·obtain ⟨g4,h⟩:=Dx h;have p:=p.b 48 c2 |>.w 57 g4
    exact gg Hp [0,1,2,3,4] p (AH _ _ h m0 m1 AC A7 i hi hd)
  ·obtain ⟨g2,h⟩:=Dx h;have p:=p.b 42 c1 |>.w 57 g2
   exact gg Hp [0,1,2,3,4] p (AH _ _ h m0 m1 AC A7 i hi hd)
 ·have p:=H0.b 36 c0;rcases GV h with ⟨c1,h⟩ | ⟨c1,h⟩
  ·obtain ⟨g0,h⟩:=Dx h;have p:=p.g g0 |>.o 21 (AS.mse_nil (k:=4) (m:=1) (o:=1) (eq_of_beq c1))
   exact gg Hp [0,1,2,3] p (AH _ _ h m0 AC i hi hd)
  ·obtain ⟨g0,h⟩:=Dx h;have p:=p.g g0 |>.o 21 (AS.mse_msl (k:=4) (m:=1) (o:=1) (oF c1) rfl)
   obtain ⟨g1,h⟩:=Dx h;refine gs Hp [0,1,2,3,4] p (A4 m0 (BF (Ab Tryz.f132) 0 [])) (AM 58 [(0,.yl C.l),(1,.ref 0 0),(3,.ref 2 0),(5,.msl 3 1 0 g.length),(6,.msl 4 1 1 (x6-1))]) (Tp g start inn o3 o4) ?_;refine BY.le (BW.rootE 4 1 ⟨AM 58 [(0,.yl C.l),(1,.ref 0 0),(3,.ref 2 0),(5,.msl 3 1 0 g.length),(6,.msl 5 1 0 (x6-1))],[some (.cells [.sl 1 g.length (Aq At g)]),some (.cells [.i start]),some (.cells [.bools inn]),some (.bools o3),none,some (.ints (o4.drop 1))]⟩ [1<=o4.length] (by kernel_rfl) ⟨g1,trivial⟩) (by kernel_rfl) ?_;refine BY.le (BW.compE [0,1,2,3,5] (by kernel_rfl)) (by kernel_rfl) ?_;exact AH _ _ h m0 AC i hi hd
theorem nh (C:C5 Tryz.prog GG) (n:Nat) (self:Ij -> Option (List Int)) (g:List (List Int)) (start:Int) (inn:List Bool) (AH: ∀ pt r,self pt=some r -> Lz C n g start inn r pt) (o3:List Bool) (r:List Int) (h:Vy n self g start inn o3=some r):Lz C (n+1) g start inn r (.l3 o3):=by
 intro m0 AC;intro i hi hd;refine rd AC fun m0 AC=>?_
 unfold Vy at h;have p:=H0;cases h;exact TrI.e HC.x Hp 10 p (by kernel_rfl) (.inl (by rw [Qw hi hd]))
theorem SY (C:C5 Tryz.prog GG) (g:List (List Int)) (start:Int) (inn:List Bool): ∀ (n:Nat) (pt:Ij) (r:List Int),D6 g start inn n pt=some r -> Lz C n g start inn r pt
 | 0,_,_,h=>by cases h
 | n+1,.l1 x6 o3 o4,r,h=>nj C n (D6 g start inn n) g start inn (SY C g start inn n) x6 o3 o4 r h
 | n+1,.l2 x6 C7 GF Bt o3 o4,r,h=>ni C n (D6 g start inn n) g start inn (SY C g start inn n) x6 C7 GF Bt o3 o4 r h
 | n+1,.l3 o3,r,h=>nh C n (D6 g start inn n) g start inn (SY C g start inn n) o3 r h
theorem nm {n:Nat} (g:List (List Int)) (start:Int) (inn:List Bool) {r:List Int} (h:Ft n g start inn=some r) (C:C5 Tryz.prog GG) (hC:C.encs=r.map BV):A1 Tryz.prog GG Fence.wide none 3 (C.Y 3 0) (C.Q 3) [.code (Ab Tryz.f132)] ⟨AM 58 [(0,.yl C.l),(1,.ref 0 0),(2,.ref 1 0),(3,.ref 2 0)],[some (.cells [.sl 1 g.length (Aq At g)]),some (.cells [.i start]),some (.cells [.bools inn])]⟩:=by
 suffices H: ∀ i:Nat,i<=C.encs.length -> C.encs.drop i=r.map BV -> A1 Tryz.prog GG Fence.wide none 3 (C.Y 3 i) (C.Q 3) [.code (Ab Tryz.f132)] ⟨AM 58 [(0,.yl C.l),(1,.ref 0 0),(2,.ref 1 0),(3,.ref 2 0)],[some (.cells [.sl 1 g.length (Aq At g)]),some (.cells [.i start]),some (.cells [.bools inn])]⟩ from H 0 (zr _) (by rw [zAr];exact hC)
 intro i hi hd;have AH:=SY C g start inn n;unfold Ft at h
 generalize D6 g start inn n=self at h AH
 unfold Vz at h;obtain ⟨⟨g0,g1,g2⟩,h⟩:=Dx h;have p:=H0.g g0 |>.g g1 |>.g g2
 exact gg Hp [0,1,2,3,4] p (en n (AH _ _ h n Nat.le.refl i hi hd))
theorem V1 {n:Nat} {g_:List (List Int)} {AT:List Bool} {start:Int} {r:List Int} (h:Ft n g_ start AT=some r) (H:DH):EQ 127 [.sl 1 g_.length (Aq At g_),.bools AT,.i start] H (.it H.length) (H++[some (.iter (r.map BV))]) true:=by
 refine ES.iterN (c:=L1 [.ref 0 0,.ref 1 0,.ref 2 0]) (h0:=[some (.cells [.sl 1 g_.length (Aq At g_)]),some (.cells [.i start]),some (.cells [.bools AT])]) (fn:=Tryz.f132) (nn (n:=0) g_ AT start (r:=()) rfl) (by kernel_rfl) Tryz.func132 (by kernel_rfl) (by kernel_rfl) (by kernel_rfl) (fun C hC=>?_) H;have e:DV.yl C.l::(List.range 3).map (L1 [.ref 0 0,.ref 1 0,.ref 2 0])++List.replicate (Tryz.f132.ntmps-(3+1)) .any=AM 58 [(0,.yl C.l),(1,.ref 0 0),(2,.ref 1 0),(3,.ref 2 0)]:=by kernel_rfl
 rw [e];exact nm g_ start AT h C hC
end Go.Proofs.YtgkhhfnhacibcaaGreatDoor
