/- Part 3 of 6 of what the proofs of these laws stand on. -/
import Derived.Test.YtekkngkphejfcaaGreatDoorPaB
import Derived.LoopIn
set_option linter.all false
namespace Go.Proofs.YtekkngkphejfcaaGreatDoor
abbrev zv:=@Bool.false_or
end Go.Proofs.YtekkngkphejfcaaGreatDoor
namespace Go.Proofs.YtekkngkphejfcaaGreatDoor
open Go.RowKit
structure HX (F:Fence) (P:Program):Prop where
 f:Dj F P
 m:P.follows .mixedOrders=true
structure HS (c:List (DV×DH×Bool)) (o:List (Nat×DV)) (z:List (Nat×Fz)) (v:List Prop):Prop where
 all:Bc v
section
variable {P:Program} {Γ:Au} {cs:List (DV×DH×Bool)} {os:List (Nat×DV)} {zs:List (Nat×Fz)} {vs:List Prop}
theorem H0:HS [] [] [] []:=⟨trivial⟩
theorem HS.add (q:HS cs os zs vs) {c':List (DV×DH×Bool)} {o':List (Nat×DV)} {z':List (Nat×Fz)} {p:Prop} (h:p):HS c' o' z' (vs++[p]):=⟨Cx.2 ⟨q.all,h,trivial⟩⟩
theorem HS.o (q:HS cs os zs vs) (t:Nat) {d d':DV} (x:AN d d'):HS cs (os++[(t,d')]) zs (vs++[AN d d']):=q.add x
theorem HS.b (q:HS cs os zs vs) (t:Nat) {a b:Bool} (x:a=b):HS cs (os++[(t,.bool b)]) zs (vs++[AN (.bool a) (.bool b)]):=q.add (AN.bool x)
theorem HS.w (q:HS cs os zs vs) (t:Nat) {x:Int} (h:AH x):HS cs (os++[(t,.int .i64 x)]) zs (vs++[AN (.int .i64 (IntKind.i64.wrap x)) (.int .i64 x)]):=q.add (jF h)
theorem HS.g (q:HS cs os zs vs) {p:Prop} (x:p):HS cs os zs (vs++[p]):=q.add x
theorem HS.t (q:HS cs os zs vs):HS cs os zs (vs++[True]):=q.add trivial
theorem HS.c (q:HS cs os zs vs) {f:Nat} {ds:List DV} {h:DH} {d:DV} {h':DH} {e:Bool} (x:ES P Γ f ds h d h' e):HS (cs++[(d,h',e)]) os zs (vs++[ES P Γ f ds h d h' e]):=q.add x
theorem HS.a (q:HS cs os zs vs) (t k m:Nat) {n n':Nat} {f f':Nat -> Nat -> DV} (x:n=n'/\ ∀ i j,i<n -> j<m -> AN (f i j) (f' i j)):HS cs os (zs++[(t,.arr k n' f')]) (vs++[n=n'/\ ∀ i j,i<n -> j<m -> AN (f i j) (f' i j)]):=q.add x
theorem HS.z (q:HS cs os zs vs) (t k:Nat):HS cs os (zs++[(t,.frz k)]) vs:=⟨q.all⟩
theorem HS.u (q:HS cs os zs vs) (t k:Nat):HS cs os (zs++[(t,.unf k)]) vs:=⟨q.all⟩
end
theorem ES.emC {P:Program} {Γ:Au} {f:Nat} {ds:List DV} {h:DH} {d:DV} {h':DH} {ext:Bool} (EC:ES P Γ f ds h d h' ext) (σ:List Nat) (H:DH) (hb:Kc σ H.length h.length h'.length=true) (hh:(σ.map fun k=>H.getD k none)=h.map (Ca σ H.length)):ES P Γ f (ds.map (up σ H.length)) H (up σ H.length d) (Cf H σ h') ext:=
 EC.embedB σ H hb hh rfl
def frzL:List Nat -> St -> Option (St×List Prop)
 | [],S=>some (S,[])
 | k::ks,S=>match Qq k S with
  | some (S',vs)=>match frzL ks S' with
   | some (CX,Bm)=>some (CX,vs++Bm)
   | none=>none
  | none=>none
theorem BF.frzL {L:Nat}: ∀ (ks:List Nat) {S S':St} {vs:List Prop},Proofs.YtekkngkphejfcaaGreatDoor.frzL ks S=some (S',vs) -> Bc vs -> BF L S S'
 | [],S,S',vs,h,_=>by cases h;exact BF.refl L S
 | k::ks,S,S',vs,h,hv=>by
  simp only [Proofs.YtekkngkphejfcaaGreatDoor.frzL] at h;split at h
  ·rename_i S1 Cs h1;split at h
   ·rename_i S2 FD h2;cases h;obtain ⟨Bb,CE⟩:=Cx.1 hv;exact (BF.frzE k S1 Cs h1 Bb).trans (BF.frzL ks h2 CE)
   ·cases h
  ·cases h
abbrev VJ:=List Prop×List Prop×List (DV×DH×Bool)×List (Nat×DV)×Bool
def Mw (σ:List Nat) (L:Nat) (w:List Prop) (r:KO×St×List Prop×Bt):VJ:=(r.2.2.1,w,r.2.2.2.calls,r.2.2.2.co,It σ L r.2.1.h.length)
def J3 (live σ:List Nat) (L:Nat) (ks:List Nat) (r:KO×St×List Prop×Bt):Option (KO×List DV×DH×VJ):=match frzL ks (comp live σ r.2.1) with
 | some (S,w)=>some (r.1,S.fr,S.h,Mw σ L w r)
 | none=>none
def dl:KO -> Option Exit
 | .ret=>some .ret
 | .at []=>some .normal
 | .at (.code (.exit i)::k)=>if (HZ i k).isNone then some (.exit i) else none
 | _=>none
def IT (P:Program) (live σ:List Nat) (L:Nat) (ks:List Nat) (fn:Func) (d:DV) (l2:Nat) (r:KO×St×List Prop×Bt):Option (Bool×List DV×DH×VJ):=match frzL ks (comp live σ r.2.1) with
 | some (S,w)=>match Mr P S fn.results.toList with
  | some rs=>some ((match r.1 with | .ret=>true | .at []=>true | _=>false)&&(decide (S.h.length<=l2)||(S.h.all Wg&&GQ d&&decide (L<=S.h.length))),rs,(if S.h.length<=l2 then S.h else (FA (List.range L) S).h),Mw σ L w r)
  | none=>none
 | none=>none
def WU (σ:List Nat) (L:Nat) (r:KO×St×List Prop×Bt):Option Exit×DH×VJ:=(dl r.1,(comp [] σ r.2.1).h,Mw σ L [] r)
section
variable {P:Program} {Γ:Au} {F:Fence} {B:Option Nat} {L:Nat} {Y N:BS P Γ L} {Q:QY P Γ L} {k k':List KI} {S:St} {fr:List DV} {h' h2:DH} {c:List (DV×DH×Bool)} {o:List (Nat×DV)} {z:List (Nat×Fz)} {v w:List Prop}
theorem oW {live σ ks:List Nat} {r:KO×St×List Prop×Bt} {r1:KO} (h:J3 live σ L ks r=some (r1,fr,h',v,w,[],[],true)) (hw:Bc w):r.1=r1/\ r.2.2.1=v/\ BF L r.2.1 ⟨fr,h'⟩:=by
 unfold J3 at h;split at h
 ·rename_i S1 w1 hf;simp only [Mw,zO,zn] at h;obtain ⟨rfl,rfl,rfl,rfl,rfl,_,_,hs⟩:=h;exact ⟨rfl,rfl,(BF.comp live σ r.2.1 hs).trans (BF.frzL ks hf hw)⟩
 ·cases h
theorem BJ.gS (hX:HX F P) (Am:BU) (n:Nat) (live σ:List Nat) (tg:List (List (Nat×Nat)×St)) (hl:HS c o z v) (ks:List Nat) (hz:HS [] [] [] w) (k':List KI) (fr:List DV) (h':DH)
 (h:(Bo P Γ Am n k S ⟨c,o,z,tg⟩).bind (J3 live σ L ks)=some (.at k',fr,h',v,w,[],[],true)) (hc:Hd k'=true) (hk:Aq P Γ F B L Y Q k' ⟨fr,h'⟩):Aq P Γ F B L Y Q k S:=by
 cases hr:Bo P Γ Am n k S ⟨c,o,z,tg⟩ with
 | none=>rw [hr] at h;cases h
 | some r=>
  obtain ⟨r1,S1,v1,o1⟩:=r;rw [hr] at h;obtain ⟨e1,e2,hs⟩:=oW (r:=(r1,S1,v1,o1)) h hz.all;have e1:r1= .at k':=e1;have e2:v1=v:=e2;subst e1 e2;exact Em hX.f hX.m n k S _ _ _ _ _ hr hl.all (BJ.le hs hc hk)
theorem BJ.el (hX:HX F P) {fn:Func} {d:DV} (Am:BU) (n:Nat) (live σ:List Nat) (tg:List (List (Nat×Nat)×St)) (hl:HS c o z v) (ks:List Nat) (hz:HS [] [] [] w) (rs:List DV) (le:AN (IE rs) d)
 (h:(Bo P Γ Am n k S ⟨c,o,z,tg⟩).bind (IT P live σ L ks fn d h2.length)=some (true,rs,h2,v,w,[],[],true)):BJ P Γ F B L N (FX P fn L d h2) k S:=by
 cases hr:Bo P Γ Am n k S ⟨c,o,z,tg⟩ with
 | none=>rw [hr] at h;cases h
 | some r=>
  obtain ⟨r1,S1,v1,o1⟩:=r;rw [hr] at h;have h:IT P live σ L ks fn d h2.length (r1,S1,v1,o1)=some (true,rs,h2,v,w,[],[],true):=h;unfold IT at h;split at h
  ·rename_i S2 w1 hf;split at h
   ·rename_i mX Tw;simp only [Mw,zO,zn,yG] at h;obtain ⟨⟨rn,hq⟩,rfl,hh,rfl,rfl,_,_,hs⟩:=h;have hS:BF L S1 S2:=(BF.comp live σ S1 hs).trans (BF.frzL ks hf hz.all)
    have fin: ∀ e,(e= .normal∨e= .ret) -> FX P fn L d h2 e S1:=fun e he=>by
     refine FX.le hS ⟨he,S2,BF.refl _ _,mX,Tw,?_⟩
     by_cases Ae:S2.h.length<=h2.length
     ·rw [yC Ae] at hh;exact .inl ⟨le,hh⟩
     ·rw [yM Ae] at hh;simp only [Ae,decide_false,zv,yG,yg] at hq;exact .inr ⟨dH hq.1.1,le,M3 hq.1.2,hq.2,hh⟩
    refine Em hX.f hX.m n k S _ _ _ _ _ hr hl.all ?_;rcases r1 with (_ | ⟨_,_⟩) | _
    ·exact ⟨rfl,fin _ (.inl rfl)⟩
    ·cases rn
    ·exact ⟨rfl,fin _ (.inr rfl)⟩
   ·cases h
  ·cases h
theorem BJ.e (hX:HX F P) {fn:Func} {d:DV} (Am:BU) (n:Nat) (live σ:List Nat) (tg:List (List (Nat×Nat)×St)) (hl:HS c o z v) (ks:List Nat) (hz:HS [] [] [] w)
 (h:(Bo P Γ Am n k S ⟨c,o,z,tg⟩).bind (fun r=>(IT P live σ L ks fn d h2.length r).map fun q=>(q.1,IE q.2.1,q.2.2))=some (true,d,h2,v,w,[],[],true)):BJ P Γ F B L N (FX P fn L d h2) k S:=by
 cases hr:Bo P Γ Am n k S ⟨c,o,z,tg⟩ with
 | none=>rw [hr] at h;cases h
 | some r=>
  rw [hr] at h;have h:(IT P live σ L ks fn d h2.length r).map (fun q=>(q.1,IE q.2.1,q.2.2))=some (true,d,h2,v,w,[],[],true):=h;cases hq:IT P live σ L ks fn d h2.length r with
  | none=>rw [hq] at h;cases h
  | some q=>
   obtain ⟨q1,rs,q3⟩:=q;rw [hq] at h;simp only [yi,zO,zn] at h;obtain ⟨rfl,hd,rfl⟩:=h;exact BJ.el hX Am n live σ tg hl ks hz rs (AN.of_eq hd) (by rw [hr];exact hq)
theorem BJ.r (hX:HX F P) {ex:List Exit} {i:Nat} {e:Exit} (Am:BU) (n:Nat) (σ:List Nat) (tg:List (List (Nat×Nat)×St)) (hl:HS c o z v) (he:(Exit.normal::ex)[i]? =some e)
 (h:(Bo P Γ Am n k S ⟨c,o,z,tg⟩).map (WU σ L)=some (some e,h2,v,[],[],[],true)):BJ P Γ F B L N (C8 L ex i h2) k S:=by
 cases hr:Bo P Γ Am n k S ⟨c,o,z,tg⟩ with
 | none=>rw [hr] at h;cases h
 | some r=>
  obtain ⟨r1,S1,v1,o1⟩:=r;rw [hr] at h;simp only [yi,WU,Mw,zO,zn] at h;obtain ⟨hk,hh,rfl,_,_,_,hs⟩:=h;have fin:stay N (C8 L ex i h2) e S1 N:=⟨rfl,he,_,BF.comp [] σ S1 hs,hh⟩;refine Em hX.f hX.m n k S _ _ _ _ _ hr hl.all ?_;unfold dl at hk;split at hk
  ·cases hk;exact fin
  ·cases hk;exact fin
  ·rename_i i' k';split at hk
   ·rename_i hp;cases hk;exact Tr.exit (No fin k' (Option.isNone_iff_eq_none.1 hp))
   ·cases hk
  ·cases hk
theorem Fs.g (hX:HX F P) {Q:Exit -> St -> Prop} {assign body:Code} (Am:BU) (n:Nat) (live σ:List Nat) (hl:HS c o z v) (fr:List DV) (h':DH)
 (h:(Bo P Γ Am n [.code assign] S ⟨c,o,z,[]⟩).map (Pe live σ L)=some (.at [],fr,h',v,[],[],true)) (hk: ∀ N2:BS P Γ L,BJ P Γ F B L N2 Q [.code body] ⟨fr,h'⟩):Fs P Γ F B L N Q assign body S:=
 Fs.go hX.f hX.m Am n _ live σ fr h' v h hl.all hk
end
section
variable {P:Program} {Γ:Au} {L:Nat} {k:List KI} {S:St} {c:List (DV×DH×Bool)} {o:List (Nat×DV)} {z:List (Nat×Fz)} {v:List Prop}
theorem TrI.e {C:Di P Γ} {Y:BS P Γ L} (hX:HX Fence.wide P) (Am:BU) (n:Nat) (hl:HS c o z v)
 (h:(Bo P Γ Am n k S ⟨c,o,z,[]⟩).map (fun r=>((match r.1 with | .ret=>true | .at []=>true | _=>false),r.2.2.1))=some (true,v)) (hY:Y=C.Y L C.encs.length∨Y=C.X L):Aq P Γ Fence.wide none L Y (C.Q L) k S:=by
 cases hr:Bo P Γ Am n k S ⟨c,o,z,[]⟩ with
 | none=>rw [hr] at h;cases h
 | some r=>
  obtain ⟨r1,S1,Cs,o1⟩:=r;rw [hr] at h;simp only [yi,zO,zn] at h;obtain ⟨h1,rfl⟩:=h;refine Em hX.f hX.m n k S _ _ _ _ _ hr hl.all ?_;rcases r1 with (_ | ⟨_,_⟩) | _
  ·exact ⟨.inl rfl,hY⟩
  ·cases h1
  ·exact ⟨.inr rfl,hY⟩
theorem Aq.y {C:Di P Γ} {i:Nat} {Q:QY P Γ L} {K:List KI} {ops:Array Oper} (hX:HX Fence.wide P) (p:Nat) (live σ:List Nat) (hl:HS c o z v) {x:Array Value} (Nl:List DV) (hT:DH) (Nm:List DV) (hE:DH)
 (hK:PH K=some (ops,Dk K)) (Aw:Dq ops=true) (h:(OM P Γ ops p S ⟨c,o,z,[]⟩).map (WT live σ L)=some (x.toList,C.l,Nl,hT,Nm,hE,v,true)) (hx:C.encs[i]? =some x) (hc:Hd (Dk K)=true) (X8:Aq P Γ Fence.wide none L (C.Y L (i+1)) Q (Dk K) ⟨Nl,hT⟩) (X9:Aq P Γ Fence.wide none L (C.X L) Q (Dk K) ⟨Nm,hE⟩):Aq P Γ Fence.wide none L (C.Y L i) Q K S:=
 Aq.yieldAt hX.f hK Aw p _ live σ Nl hT Nm hE v h hl.all hx hc X8 X9
end
section
variable {P:Program} {Γ:Au} {F:Fence} {B L:Nat} {Y:BS P Γ L} {Q:QY P Γ L} {fr:List DV} {h:DH} {K:List KI} {a b:Code} {α σ:Type} {l:List α} {H:σ -> DH} {FR:α -> List DV}
theorem BJ.rg (Ho:F=Fence.wide∨∃ l,F=Fence.wide.inRound l) (ex:List Exit) (Ig:(ex.all fun e=>(JS e).isSome)=true) (kk t:Nat) (ps:Array Tmp) (enc:α -> Array Value) (L':Nat) {f:α -> σ -> Option (σ×Nat)} {s0:σ} {rE:σ×Nat} (hf:ED f l s0=some rE)
 (DF: ∀ (l B:Nat) (N:BS P Γ L') (x:α) (s:σ) (r:σ×Nat),f x s=some r -> Fs P Γ (Fence.wide.inRound l) (some B) L' N (C8 L' ex r.2 (H r.1)) a b ⟨FR x,H s⟩)
 (hK:LD K=some (.tmp t,ps,a,b,Dk K)) (hg:AY fr (.tmp t)= .it kk) (hk:h[kk]? =some (some (.iter (l.map enc)))) (Db: ∀ x,(enc x).size=ps.size) (hL:Nat.ble L L'=true) (Fp:fr.all (F0 L')=true) (h0:h.set kk none=H s0) (Du:(fun x=>Iv fr ps.toList (enc x).toList)=FR)
 (Dv: ∀ e,(Exit.normal::ex)[rE.2]? =some e -> DJ P Γ F (some B) L Q (Dk K) e ⟨fr,H rE.1⟩ Y):Aq P Γ F (some B) L Y Q K ⟨fr,h⟩:=
 BJ.rangeAt Ho ex Ig (.tmp t) ps a b (Dk K) enc l H FR f hf hK hg hk Db L' hL Fp h0 Du DF Dv
theorem BJ.rg0 (Ho:F=Fence.wide∨∃ l,F=Fence.wide.inRound l) (kk t:Nat) (ps:Array Tmp) (enc:α -> Array Value) (L':Nat) {f:α -> σ -> Option σ} {s0 sE:σ} (hf:Bz f l s0=some sE)
 (DF: ∀ (l B:Nat) (N:BS P Γ L') (x:α) (s r:σ),f x s=some r -> Fs P Γ (Fence.wide.inRound l) (some B) L' N (C8 L' [] 0 (H r)) a b ⟨FR x,H s⟩)
 (hK:LD K=some (.tmp t,ps,a,b,Dk K)) (hg:AY fr (.tmp t)= .it kk) (hk:h[kk]? =some (some (.iter (l.map enc)))) (Db: ∀ x,(enc x).size=ps.size) (hL:Nat.ble L L'=true) (Fp:fr.all (F0 L')=true) (h0:h.set kk none=H s0) (Du:(fun x=>Iv fr ps.toList (enc x).toList)=FR)
 (Dv:Aq P Γ F (some B) L Y Q (Dk K) ⟨fr,H sE⟩):Aq P Γ F (some B) L Y Q K ⟨fr,h⟩:=
 BJ.rangeAt0 Ho (.tmp t) ps a b (Dk K) enc l H FR f hf hK hg hk Db L' hL Fp h0 Du DF Dv
end
end Go.Proofs.YtekkngkphejfcaaGreatDoor
namespace Go.Proofs.YtekkngkphejfcaaGreatDoor
abbrev yI:=@decide_eq_true
abbrev yo:=@List.mem_cons_of_mem
abbrev zAz:=@List.mem_of_mem_erase
end Go.Proofs.YtekkngkphejfcaaGreatDoor
namespace Go.Proofs.YtekkngkphejfcaaGreatDoor
open Go.RowKit
abbrev LK:=Nat×Array MapEntry×Nat
theorem pg {i:Nat}:TQ none i:=fun _ h=>by cases h
theorem pf {i j:Nat} {g:LK} (h:i≠j):TQ (some (i,g)) j:=fun y e=>by cases e;exact h
def Gp {R:Type} [DecidableEq R] (rem:KS) (a:Option R) (f:List Int -> Option R):Option R:=match rem with
 | []=>a
 | x::r=>match f x with
  | none=>none
  | some v=>if r.all (fun y=>decide (f y=some v)) then some v else none
theorem TG {R:Type} [DecidableEq R] {rem:KS} {a:Option R} {f:List Int -> Option R} {r:R} (h:Gp rem a f=some r):(rem= [] -> a=some r)/\ ∀ y∈rem,f y=some r:=by
 cases rem with
 | nil=>exact ⟨fun _=>h,fun y hy=>absurd hy z7⟩
 | cons x l=>
  refine ⟨fun e=>absurd e (List.cons_ne_nil x l),?_⟩;unfold Gp at h;simp only at h;cases hx:f x with
  | none=>rw [hx] at h;cases h
  | some v=>
   rw [hx] at h;simp only at h;split at h
   ·rename_i hc;cases h;intro y hy;rcases yd.1 hy with rfl | hy
    ·exact hx
    ·exact zp (yL.1 hc y hy)
   ·cases h
theorem cw {R:Type} [DecidableEq R] {a:Option R} {f:List Int -> Option R}:Gp [] a f=a:=rfl
theorem oh {R:Type} [DecidableEq R] {rem:KS} {a:Option R} {f:List Int -> Option R} {r:R} (hn:rem≠[]) (h: ∀ y∈rem,f y=some r):Gp rem a f=some r:=by
 cases rem with
 | nil=>exact absurd rfl hn
 | cons x l=>
  unfold Gp;simp only [h x (by simp)];rw [yC];exact yL.2 fun y hy=>yI (h y (by simp [hy]))
theorem mN {P:Program} {w:World} {r bm HN c0 AR:Nat} {seen:Array Nat} {es:Array MapEntry} (hr:w.heap[r]? =some (.mapIter (some bm) HN seen c0)) (hb:w.heap[bm]? =some (.map es AR)) (KG: ∀ x∈es.toList,x.born<HN) (rf:HN<=c0) (ty:TypeId):
 ((leftOf es seen).size=0/\ (Instr.next (.pointer (some ⟨r,0,none⟩)) false ty).run P w= .ok (.tuple #[.bool false]) w)∨
 ∃ e∈(leftOf es seen).toList,∃ w1:World,(w1=w∨w1=w.drew)/\ (Instr.next (.pointer (some ⟨r,0,none⟩)) false ty).run P w= .ok (.tuple #[.bool true,e.key,e.val]) { w1 with heap:=w1.heap.setIfInBounds r (.mapIter (some bm) HN (seen.push e.born) AR) }:=by
 simp only [Instr.next,getObj,yU,Sem.run,hr,hb,Result.andThen,next_test_false seen es HN c0 KG rf,yt,zAA];unfold leftOf;have Bx: ∀ x∈(Array.filter (fun e=>!seen.contains e.born) es).toList,x.born<HN:=fun x hx=>KG x (by simp at hx ⊢;exact hx.1)
 generalize Array.filter (fun e=>!seen.contains e.born) es=L at Bx ⊢
 have e1:L.filter (fun x=>decide (x.born<HN))=L:=Array.filter_eq_self.2 (fun x hx=>by simpa using Bx x (by simpa using hx))
 have e2:L.filter (fun x=>decide (x.born>=HN))= #[]:=by
  rw [Array.filter_eq_empty_iff];intro x hx;have:=Bx x (by simpa using hx);simp;omega
 simp only [e1,e2,Array.append_empty]
 by_cases h0:L.size=0
 ·left;have:L= #[]:=zAK h0;subst this;refine ⟨rfl,?_⟩;simp [choose,Sem.run,Question.forced]
 ·right;have AV:L.isEmpty=false:=by simp [Array.isEmpty,h0]
  simp only [AV,yt,zAA,Array.empty_append,Array.size_map]
  have UF: ∃ (j:Nat) (w1:World),j<L.size/\ (w1=w∨w1=w.drew)/\ (choose (Question.mapNext L.size)).run P w= .ok j w1:=by
   by_cases hf:L.size<=1
   ·exact ⟨0,w,by omega,.inl rfl,by simp [choose,Sem.run,Question.forced,hf]⟩
   ·exact ⟨_,w.drew,zA8 _ (by omega),.inr rfl,by
     simp only [choose,Sem.run,Question.forced,yg,hf,zAA,Question.cut];rfl⟩
  obtain ⟨j,w1,hj,L4,NN⟩:=UF;have QM:w1.heap[r]? =some (.mapIter (some bm) HN seen c0):=by rcases L4 with rfl | rfl <;> exact hr
  refine ⟨L[j],by simp,w1,L4,?_⟩;simp only [NN,Array.getElem?_map,zN hj,yi,yU,setObj,Sem.run,QM,Result.andThen];rfl
section
variable {P:Program} {Γ:Au} {N:Nat -> Prop} {S:St} {ρ:List AI} {a:Act} {w:World} {F:Fence} {B:Option Nat} {L:Nat} {Y:BS P Γ L} {Q:QY P Γ L}
theorem AX.setMo (R:AX P Γ N S ρ a w) {k:Nat} {x x':MX} {p:AI} (hk:S.h[k]? =some (some (.mo x))) (hp:ρ[k]? =some p) (hO:Ko w p x') (hc: ∀ b,p.foot b -> Dh w b):
 AX P Γ N ⟨S.fr,S.h.set k (some (.mo x'))⟩ ρ a w/\ A8 S.h ρ w (S.h.set k (some (.mo x'))) ρ w:=
 ⟨⟨R.hr.write hk hp (AM.refl _ _) hc hO,R.fr.out (BM.write trivial hk hp (AM.refl p.foot w))⟩,A8.write hk hp (AM.refl _ _)⟩
theorem EY.relock {p:AI} {n:Nat} {ls:List (Option KS)} {vs:Array Value} (hS:EY w p n ls none vs) {i:Nat} (hi:(ls.getD i none).isSome=true): ∃ g:LK,EY w p n ls (some (i,g)) vs:=by
 obtain ⟨mb,g1,g2,g3,es,AR,g4,_⟩:=hS.has i _ (Ni hi);refine ⟨(mb,es,AR),{ hS with has:=fun j l hl=>?_ }⟩
 by_cases e:j=i
 ·subst e;have:l=(ls.getD j none).getD []:=by have:=Ni hi;rw [hl] at this;exact yK (yK this)
  subst this;exact ⟨mb,g1,g2,g3,es,AR,g4,fun x hx _=>by cases hx;rfl⟩
 ·obtain ⟨b,k1,k2,k3,G8,c1,k4,_⟩:=hS.has j l hl;exact ⟨b,k1,k2,k3,G8,c1,k4,fun x hx hj=>by cases hx;exact absurd hj.symm e⟩
theorem EY.unlock {p:AI} {n:Nat} {ls:List (Option KS)} {lk:Option (Nat×LK)} {vs:Array Value} (hS:EY w p n ls lk vs):EY w p n ls none vs:=
 { hS with has:=fun j l hl=>let ⟨b,k1,k2,k3,G8,c1,k4,_⟩:=hS.has j l hl;⟨b,k1,k2,k3,G8,c1,k4,fun x hx=>by cases hx⟩ }
theorem Tr.lock {c:Code} {j i n:Nat} {ls:List (Option KS)} (hk:S.h[j]? =some (some (.mo (.sets n ls none)))) (hi:(ls.getD i none).isSome=true) (H: ∀ g:LK,Tr P Γ F B L Y c ⟨S.fr,S.h.set j (some (.mo (.sets n ls (some (i,g)))))⟩ Q):Tr P Γ F B L Y c S Q:=fun N ρ a w R y m b=>by
 obtain ⟨p,hp,vs,hS⟩:=R.hr.obj j _ hk;obtain ⟨g,UI⟩:=hS.relock hi;obtain ⟨R',st⟩:=R.setMo hk hp (x':=.sets n ls (some (i,g))) ⟨vs,UI⟩ fun b hb=>hS.lies hb
 exact H g N ρ a w R' (Y.st y R.hr R'.hr st (D0.refl _ _)) m b
def dy:List KI -> Bool
 | .code _::_=>true
 | _=>false
theorem BJ.lock {K:List KI} {fr:List DV} {h:DH} (j i n:Nat) {ls:List (Option KS)} (hk:h[j]? =some (some (.mo (.sets n ls none)))) (hi:(ls.getD i none).isSome=true) (hK:dy K=true) (h':LK -> DH) (he:h'=fun g=>h.set j (some (.mo (.sets n ls (some (i,g)))))) (H: ∀ g:LK,Aq P Γ F B L Y Q K ⟨fr,h' g⟩):Aq P Γ F B L Y Q K ⟨fr,h⟩:=by
 subst he;unfold dy at hK;split at hK
 ·exact Tr.lock (S:=⟨fr,h⟩) hk hi H
 ·cases hK
theorem pI (R:AX P Γ N S ρ a w) {m j n n' i:Nat} {ls:List (Option KS)} {g:LK} {rem:KS} {EE:Option (List Int)} (hm:S.h[m]? =some (some (.mo (.mit n g.1 g.2.1 g.2.2 rem EE)))) (hj:S.h[j]? =some (some (.mo (.sets n' ls (some (i,g)))))) (hi:(ls.getD i none).isSome=true) {v:Value} (hv:AJ (MS N S.h ρ) w (.it m) ρ v) (ty:TypeId):
 (rem= []/\ (Instr.next v false ty).run P w= .ok (.tuple #[.bool false]) w)∨∃ y∈rem,∃ (k u:Value) (w':World) (p:AI),(Instr.next v false ty).run P w= .ok (.tuple #[.bool true,k,u]) w'/\ ρ[m]? =some p/\ AM p.foot w w'/\ Ko w' p (.mit n g.1 g.2.1 g.2.2 (rem.erase y) (some y))/\ ∀ b,p.foot b -> Dh w' b:=by
 obtain ⟨p,hp,rfl⟩:=hv;obtain ⟨p',A6,h0,h1,h2,seen,h3,h4,h5⟩:=R.hr.obj m _ hm;have:p'=p:=yK (A6.symm.trans hp);subst this;obtain ⟨q,hq,vs,hS⟩:=R.hr.obj j _ hj;obtain ⟨b,k1,k2,k3,G8,U1,k4,k5⟩:=hS.has i _ (Ni hi);have k5:=k5 _ rfl rfl;obtain ⟨mb,es,AR⟩:=g
 have e3:mb=b/\ es=G8/\ AR=U1:=by
  have:(mb,es,AR)=(b,G8,U1):=k5;simpa using this
 obtain ⟨rfl,rfl,rfl⟩:=e3;simp only at h3 h4 h5;rw [h1];have KG: ∀ x∈es.toList,x.born<AR:=k4.born;rcases mN (P:=P) h3 k4.blk KG (yf _) ty with ⟨e1,e2⟩ | ⟨e,he,w1,QG,e2⟩
 ·refine .inl ⟨?_,e2⟩;have:(leftOf es seen)= #[]:=zAK e1;rw [this] at h4;have:=h4.length_eq;simp at this;exact zJ this.symm
 ·have uF:e.key∈rem.map A4:=h4.mem_iff.1 (zK.2 ⟨e,he,rfl⟩);obtain ⟨y,hy,eE⟩:=zK.1 uF;have uD:e∈es.toList:=by simp [leftOf] at he ⊢;exact he.1
  have rl:p'.blk<w.heap.size:=(yE.1 h3).1;have rH:w1.heap=w.heap:=by rcases QG with rfl | rfl <;> rfl
  have hU:AM p'.foot w { w1 with heap:=w1.heap.setIfInBounds p'.blk (.mapIter (some mb) AR (seen.push e.born) AR) }:=by
   rw [h2]
   have u1:AM (fun k=>k=p'.blk) w w1:=by
    rcases QG with rfl | rfl
    ·exact AM.refl _ _
    ·exact AM.ofExt (Ar.toDrew w)
   exact u1.trans (OT _)
  have G3:({ w1 with heap:=w1.heap.setIfInBounds p'.blk (.mapIter (some mb) AR (seen.push e.born) AR) }:World).heap[p'.blk]? =some (.mapIter (some mb) AR (seen.push e.born) AR):=by
   show (w1.heap.setIfInBounds _ _)[_]? =_
   simp [rH,rl]
  refine .inr ⟨y,hy,e.key,e.val,_,p',e2,hp,hU,⟨fun x hx=>?_,h1,h2,seen.push e.born,G3,?_,fun x hx=>?_⟩,fun b hb=>?_⟩
  ·rcases hx with hx | hx
   ·exact h0 x (.inl (zAz hx))
   ·have ex:y=x:=yK hx;subst ex;exact h0 y (.inl hy)
  ·have hl:leftOf es (seen.push e.born)=(leftOf es seen).filter fun x=>x.born != e.born:=by
    unfold leftOf;rw [Array.filter_filter]
    congr 1
    funext x
    simp only [Array.contains_push,Bool.not_or];rw [Bool.and_comm];simp [bne,Bool.beq_comm]
   have Aw:((leftOf es seen).toList.map (·.born)).Nodup:=by
    have:((leftOf es seen).toList.map (·.born)).Sublist (es.toList.map (·.born)):=by
     unfold leftOf;rw [Array.toList_filter];exact List.filter_sublist.map _
    exact this.nodup k4.stamps
   have uA: ∀ (l:List MapEntry),(l.map (·.born)).Nodup -> e∈l -> (l.map (·.key)).Perm (e.key::((l.filter fun x=>x.born != e.born).map (·.key))):=by
    intro l
    induction l with
    | nil=>intro _ h;cases h
    | cons x l ih=>
     intro hn hx;rw [zi,zAo] at hn
     by_cases eF:x=e
     ·subst eF
      have:(l.filter fun y=>y.born != x.born)=l:=List.filter_eq_self.2 fun y hy=>by
       simp only [zl,ne_eq];exact fun hc=>hn.1 (by rw [←hc];exact zK.2 ⟨y,hy,rfl⟩)
      simp [this]
     ·have Qd:e∈l:=(yd.1 hx).resolve_left fun h=>eF h.symm
      have AV:(x.born != e.born)=true:=by
       simp only [zl,ne_eq];exact fun hc=>hn.1 (by rw [hc];exact zK.2 ⟨e,Qd,rfl⟩)
      rw [List.filter_cons,yC AV,zi,zi];exact ((ih hn.2 Qd).cons x.key).trans (List.Perm.swap e.key x.key _)
   have P1:=uA _ Aw he;rw [hl,Array.toList_filter];have P2:(rem.map A4).Perm (A4 y::(rem.erase y).map A4):=(List.perm_cons_erase hy).map A4;have P3:=P1.symm.trans (h4.trans P2);rw [←eE] at P3;exact List.Perm.cons_inv P3
  ·have ex:y=x:=yK hx;subst ex;exact ⟨e,uD,eE.symm,by simp⟩
  ·rw [h2] at hb;exact ⟨_,rfl,(),by rw [show b=p'.blk from hb];exact G3⟩
theorem Tr.next (hF:Dj F P) {id:Nat} {ops:Array Oper} (Aw:Dq ops=true) {o:Oper} {rest:List Oper} (T4:ops.toList=o::rest) {x:Operand} (ho:o.op= .next x false) (hw:Kt ops S o=some true) {m j n n' i:Nat} {ls:List (Option KS)} {g:LK} {rem:KS} {EE:Option (List Int)} (hx:AY S.fr x= .it m) (hm:S.h[m]? =some (some (.mo (.mit n g.1 g.2.1 g.2.2 rem EE)))) (hj:S.h[j]? =some (some (.mo (.sets n' ls (some (i,g)))))) (fA:m≠j) (hi:(ls.getD i none).isSome=true)
 (h0:rem= [] -> ∃ S' vs o0 o',ET P Γ ops rest ⟨Ed S.fr o.dst (.tup 1 (L1 [.bool false])),(S.h.set j (some (.mo (.sets n' ls none)))).set m none⟩ o0=some (S',vs,o')/\ Bc vs/\ Q .normal S' Y)
 (h1: ∀ y∈rem,∃ S' vs o0 o',ET P Γ ops rest ⟨Ed S.fr o.dst (.tup 3 (L1 [.bool true])),S.h.set m (some (.mo (.mit n g.1 g.2.1 g.2.2 (rem.erase y) (some y))))⟩ o0=some (S',vs,o')/\ Bc vs/\ Q .normal S' Y):Tr P Γ F B L Y (.region id ops false) S Q:=fun N ρ a w R y mk b=>by
 refine wpIn_region_list ?_;rw [T4];have hd: ∀ c,o.op≠.defer c:=fun c e=>by rw [ho] at e;cases e
 have Dt: ∀ o'∈rest,o'∈ops:=fun o' GT=>by
  have:o'∈ops.toList:=by rw [T4];exact yo _ GT
  simpa using this
 have DR: ∀ v,(a.put o.dst v).defers=a.defers:=fun v=>by cases ho:o.dst <;> simp [Act.put]
 have rx:=Bj R x;rw [hx] at rx;unfold wpListIn;rw [yC (Jh R hw)];have Ig:execOp a.eval o=(do pure (.value (←Instr.next (a.eval x) false o.type))):=by unfold execOp;rw [ho]
 have AK:m<S.h.length:=(yJ.1 hm).1;rcases pI R hm hj hi rx o.type with ⟨e1,e2⟩ | ⟨ky,tk,k,u,w',p,e2,hp,hU,hO,hC⟩
 ·obtain ⟨S',vs,o0,o',g1,g2,g3⟩:=h0 e1;obtain ⟨q,hq,jQ,hS⟩:=R.hr.obj j _ hj;obtain ⟨R1,Mh⟩:=R.setMo hj hq (x':=.sets n' ls none) ⟨jQ,hS.unlock⟩ fun b hb=>hS.lies hb
  have R2:AX P Γ N ⟨S.fr,(S.h.set j (some (.mo (.sets n' ls none)))).set m none⟩ ρ a w:=⟨R1.hr.kill m,R1.fr.out (BM.kill m)⟩
  have R3:=II R2 o.dst (d:=.tup 1 (L1 [.bool false])) (v:=.tuple #[.bool false]) ⟨#[.bool false],rfl,rfl,fun jj QW=>by
   have:jj=0:=by omega
   subst this;exact ⟨_,rfl,rfl⟩⟩
  refine Nv hF hd (G:=fun v w2=>v= .tuple #[.bool false]/\ w2=w) (BN.value (s:=Instr.next (a.eval x) false o.type) Ig e2 ⟨rfl,rfl⟩) fun v w2 ⟨hv,QF⟩=>?_
  subst hv QF;refine KT hF Aw rest Dt R3 g1 g2 fun ρ' a' w3 R' st Dw=>?_
  exact Tr.done R y mk b g3 R' ((Mh.trans (A8.kill m)).trans st.st) (fun k p _ hp=>st.pl k p hp) (Dw.trans (DR _))
 ·obtain ⟨S',vs,o0,o',g1,g2,g3⟩:=h1 ky tk;have Mh:=A8.write (h:=S.h) (o':=.mo (.mit n g.1 g.2.1 g.2.2 (rem.erase ky) (some ky))) hm hp hU;have R1:AX P Γ N ⟨S.fr,S.h.set m (some (.mo (.mit n g.1 g.2.1 g.2.2 (rem.erase ky) (some ky))))⟩ ρ a w':=⟨R.hr.write hm hp hU hC hO,R.fr.out (BM.write trivial hm hp hU)⟩
  have R3:=II R1 o.dst (d:=.tup 3 (L1 [.bool true])) (v:=.tuple #[.bool true,k,u]) ⟨#[.bool true,k,u],rfl,rfl,fun jj QW=>by
   match jj,QW with
   | 0,_=>exact ⟨_,rfl,rfl⟩
   | 1,_=>exact ⟨_,rfl,trivial⟩
   | 2,_=>exact ⟨_,rfl,trivial⟩⟩
  refine Nv hF hd (G:=fun v w2=>v= .tuple #[.bool true,k,u]/\ w2=w') (BN.value (s:=Instr.next (a.eval x) false o.type) Ig e2 ⟨rfl,rfl⟩) fun v w2 ⟨hv,QF⟩=>?_
  subst hv QF;refine KT hF Aw rest Dt R3 g1 g2 fun ρ' a' w3 R' st Dw=>?_
  exact Tr.done R y mk b g3 R' (Mh.trans st.st) (fun k p _ hp=>st.pl k p hp) (Dw.trans (DR _))
def Wc (ops:Array Oper):Operand:=match ops.toList with
 | o::_=>match o.op with
  | .next x _=>x
  | _=>.tmp 0
 | []=>.tmp 0
def TI (ops:Array Oper):Option Tmp:=match ops.toList with
 | o::_=>o.dst
 | []=>none
def LU (ops:Array Oper):List Oper:=ops.toList.tail
def Wd (ops:Array Oper):Bool:=match ops.toList with
 | o::_=>match o.op with
  | .next _ false=>o.guard.isNone&&Dq ops
  | _=>false
 | []=>false
theorem ow {ops:Array Oper} (h:Wd ops=true):Dq ops=true/\ ∃ o,ops.toList=o::LU ops/\ o.op= .next (Wc ops) false/\ o.guard=none/\ o.dst=TI ops:=by
 unfold Wd at h;unfold Wc TI LU;split at h
 ·rename_i o rest T4;rw [T4];split at h
  ·rename_i x ho;simp only [yG,Option.isNone_iff_eq_none] at h;refine ⟨h.2,o,rfl,?_,h.1,rfl⟩;simp only [ho]
  ·cases h
 ·cases h
def TC (live σ:List Nat) (L:Nat) (r:St×List Prop×Bt):List DV×DH×List Prop×Bool:=((comp live σ r.1).fr,(comp live σ r.1).h,r.2.1,It σ L r.1.h.length)
theorem Aq.nx (hX:HX F P) {K:List KI} {ops:Array Oper} {fr:List DV} {h:DH} (hK:PH K=some (ops,Dk K)) (B4:Wd ops=true) (m j i n:Nat) (ls:List (Option KS)) (g:LK) (rem:KS) (EE:Option (List Int)) (live σ:List Nat) (gE:List DV) (h0:DH) (σ1:List Nat) (UV:List Int -> List DV) (h1:List Int -> DH)
 (hx:AY fr (Wc ops)= .it m) (hm:h[m]? =some (some (.mo (.mit n g.1 g.2.1 g.2.2 rem EE)))) (hj:h[j]? =some (some (.mo (.sets n ls (some (i,g)))))) (fA:m≠j) (hi:(ls.getD i none).isSome=true) (hc:Hd (Dk K)=true)
 (c0:(ET P Γ ops (LU ops) ⟨Ed fr (TI ops) (.tup 1 (L1 [.bool false])),(h.set j (some (.mo (.sets n ls none)))).set m none⟩ ⟨[],[],[],[]⟩).map (TC live σ L)=some (gE,h0,[],true))
 (c1: ∀ y,(ET P Γ ops (LU ops) ⟨Ed fr (TI ops) (.tup 3 (L1 [.bool true])),h.set m (some (.mo (.mit n g.1 g.2.1 g.2.2 (rem.erase y) (some y))))⟩ ⟨[],[],[],[]⟩).map (TC live σ1 L)=some (UV y,h1 y,[],true))
 (k0:rem= [] -> Aq P Γ F B L Y Q (Dk K) ⟨gE,h0⟩) (k1: ∀ y∈rem,Aq P Γ F B L Y Q (Dk K) ⟨UV y,h1 y⟩):Aq P Γ F B L Y Q K ⟨fr,h⟩:=by
 have go: ∀ {S:St} {live σ:List Nat} {L7:List DV} {h':DH},(ET P Γ ops (LU ops) S ⟨[],[],[],[]⟩).map (TC live σ L)=some (L7,h',[],true) -> Aq P Γ F B L Y Q (Dk K) ⟨L7,h'⟩ -> ∃ S' vs o0 o',ET P Γ ops (LU ops) S o0=some (S',vs,o')/\ Bc vs/\ Aq P Γ F B L Y Q (Dk K) S':=by
  intro S live σ L7 h' L3 hk;cases hr:ET P Γ ops (LU ops) S ⟨[],[],[],[]⟩ with
  | none=>rw [hr] at L3;cases L3
  | some r=>
   obtain ⟨S1,v1,o1⟩:=r;rw [hr] at L3;simp only [yi,TC,zO,zn] at L3;obtain ⟨rfl,rfl,rfl,hs⟩:=L3;exact ⟨S1,_,_,_,hr,trivial,BJ.le (BF.comp live σ S1 hs) hc hk⟩
 unfold PH at hK;split at hK
 ·rename_i id oe k';have e:=yK hK;simp only [Dk,zn,and_true] at e;subst e;obtain ⟨Aw,o,q1,q2,q3,q4⟩:=ow B4;exact Tr.next (S:=⟨fr,h⟩) hX.f Aw q1 q2 (by unfold Kt;rw [q3]) hx hm hj fA hi (fun e=>by rw [q4];exact go c0 (k0 e)) (fun y hy=>by rw [q4];exact go (c1 y) (k1 y hy))
 ·cases hK
end
end Go.Proofs.YtekkngkphejfcaaGreatDoor
namespace Go.Proofs.YtekkngkphejfcaaGreatDoor
abbrev yR:=@Nat.lt_succ_iff_lt_or_eq
abbrev zM:=@List.mem_cons_self
end Go.Proofs.YtekkngkphejfcaaGreatDoor
namespace Go.Proofs.YtekkngkphejfcaaGreatDoor
open Go.RowKit
def Ab {R:Type} (f:Nat -> Option R) (Q:R -> Prop):Prop:=∃ N,∀ n,N<=n -> ∃ r,f n=some r/\ Q r
def Ev {R:Type} (f:Nat -> Option R) (r:R):Prop:=∃ N,∀ n,N<=n -> f n=some r
section
variable {R T:Type} {f g:Nat -> Option R} {Q Q':R -> Prop} {r:R}
theorem Ev.p (h:Ev f r) (hq:Q r):Ab f Q:=let ⟨N,h⟩:=h;⟨N,fun n hn=>⟨r,h n hn,hq⟩⟩
theorem Ab.ev (h:Ab f Q) (hu: ∀ r r',Q r -> Q r' -> r=r'): ∃ r,Q r/\ Ev f r:=by
 obtain ⟨N,h⟩:=h;obtain ⟨r,h1,h2⟩:=h N (yf _);refine ⟨r,h2,N,fun n hn=>?_⟩;obtain ⟨r',h3,h4⟩:=h n hn;rw [h3,hu _ _ h4 h2]
theorem Ab.mono (h:Ab f Q) (hq: ∀ r,Q r -> Q' r):Ab f Q':=let ⟨N,h⟩:=h;⟨N,fun n hn=>let ⟨r,h1,h2⟩:=h n hn;⟨r,h1,hq r h2⟩⟩
theorem Ab.step (k:Nat) (h: ∀ n,f (n+k)=g n) (hg:Ab g Q):Ab f Q:=by
 obtain ⟨N,hg⟩:=hg;refine ⟨N+k,fun n hn=>?_⟩;have:=hg (n-k) (by omega);rw [←h,show n-k+k=n by omega] at this;exact this
theorem Ev.step (k:Nat) (h: ∀ n,f (n+k)=g n) (hg:Ev g r):Ev f r:=by
 obtain ⟨N,hg⟩:=hg;refine ⟨N+k,fun n hn=>?_⟩;have:=hg (n-k) (by omega)
 rwa [←h,show n-k+k=n by omega] at this
theorem Ev.now (h: ∀ n,f n=some r):Ev f r:=⟨0,fun n _=>h n⟩
theorem Ev.eq {f g:Nat -> Option R} (h:Ev g r) (e: ∀ n,f n=g n):Ev f r:=let ⟨N,h⟩:=h;⟨N,fun n hn=>(e n).trans (h n hn)⟩
theorem Ab.eq {f g:Nat -> Option R} (h:Ab g Q) (e: ∀ n,f n=g n):Ab f Q:=let ⟨N,h⟩:=h;⟨N,fun n hn=>by rw [e];exact h n hn⟩
theorem Ev.bind {a:Nat -> Option T} {x:T} {b:Nat -> T -> Option R} (ha:Ev a x) (hb:Ev (fun n=>b n x) r):Ev (fun n=>(a n).bind (b n)) r:=by
 obtain ⟨N,ha⟩:=ha;obtain ⟨M,hb⟩:=hb;refine ⟨max N M,fun n hn=>?_⟩
 show (a n).bind (b n)=_
 rw [ha n (by omega),yD];exact hb n (by omega)
theorem Ab.bind {a:Nat -> Option T} {x:T} {b:Nat -> T -> Option R} (ha:Ev a x) (hb:Ab (fun n=>b n x) Q):Ab (fun n=>(a n).bind (b n)) Q:=by
 obtain ⟨N,ha⟩:=ha;obtain ⟨M,hb⟩:=hb;refine ⟨max N M,fun n hn=>?_⟩
 show ∃ r,(a n).bind (b n)=some r/\ _
 rw [ha n (by omega),yD];exact hb n (by omega)
theorem Ab.all {l:List T} {F:T -> Nat -> Option R} (h: ∀ y∈l,Ab (F y) Q): ∃ N,∀ n,N<=n -> ∀ y∈l,∃ r,F y n=some r/\ Q r:=by
 induction l with
 | nil=>exact ⟨0,fun n _ y hy=>absurd hy z7⟩
 | cons x l ih=>
  obtain ⟨N,hN⟩:=ih fun y hy=>h y (yo _ hy)
  obtain ⟨M,hM⟩:=h x zM;refine ⟨max N M,fun n hn y hy=>?_⟩;rcases yd.1 hy with rfl | hy
  ·exact hM n (by omega)
  ·exact hN n (by omega) y hy
theorem Ab.range {F:Nat -> Nat -> Option R} {A:Nat -> R -> Prop}: ∀ (k:Nat),(∀ i,i<k -> Ab (F i) (A i)) -> ∃ N,∀ n,N<=n -> ∀ i,i<k -> ∃ r,F i n=some r/\ A i r
 | 0,_=>⟨0,fun n _ i hi=>absurd hi (yT i)⟩
 | k+1,h=>by
  obtain ⟨N,hN⟩:=Ab.range k fun i hi=>h i (by omega)
  obtain ⟨M,hM⟩:=h k (by omega);refine ⟨max N M,fun n hn i hi=>?_⟩;rcases yR.1 hi with hi | rfl
  ·exact hN n (by omega) i hi
  ·exact hM n (by omega)
theorem Ab.next [DecidableEq R] {rem:KS} {a:Nat -> Option R} {F:Nat -> List Int -> Option R} (hn:rem≠[]) (h: ∀ y∈rem,Ab (fun n=>F n y) Q) (hu: ∀ r r',Q r -> Q r' -> r=r'):Ab (fun n=>Gp rem (a n) (F n)) Q:=by
 obtain ⟨N,hN⟩:=Ab.all h;refine ⟨N,fun n NU=>?_⟩;obtain ⟨y0,rD⟩:=List.exists_mem_of_ne_nil rem hn;obtain ⟨r,h1,h2⟩:=hN n NU y0 rD;refine ⟨r,oh hn fun y hy=>?_,h2⟩;obtain ⟨r',h3,h4⟩:=hN n NU y hy;rw [hu _ _ h2 h4];exact h3
end
end Go.Proofs.YtekkngkphejfcaaGreatDoor
namespace Go.Proofs.YtekkngkphejfcaaGreatDoor
open Go.RowKit
class HC (F:Fence):Prop where
 x:HX F Tryz.prog
 w:F=Fence.wide∨∃ l,F=Fence.wide.inRound l
instance:HC Fence.wide:=⟨⟨Dj.wide,by kernel_rfl⟩,.inl rfl⟩
instance (l:Nat):HC (Fence.wide.inRound l):=⟨⟨Dj.round l,by kernel_rfl⟩,.inr ⟨l,rfl⟩⟩
abbrev DV.i (x:Int):DV:=.int .i64 x
def AE:BU:=fun _=>.no
def Gu:Nat -> List DV -> List Nat
 | _,[]=>[]
 | i,.any::r=>Gu (i+1) r
 | i,_::r=>i::Gu (i+1) r
section
variable {F:Fence} {B:Option Nat} {L:Nat} {Y N:BS Tryz.prog GG L} {Q:QY Tryz.prog GG L} {k k':List KI} {S:St} {fr:List DV} {h' h2:DH} {c:List (DV×DH×Bool)} {o:List (Nat×DV)} {z:List (Nat×Fz)} {v w:List Prop}
theorem gz [hX:HC F] (Am:BU) (σ:List Nat) (hl:HS c o z v) (ks:List Nat) (hz:HS [] [] [] w) (k':List KI) (fr:List DV) (h':DH) (hk:Aq Tryz.prog GG F B L Y Q k' ⟨fr,h'⟩) (tg:List (List (Nat×Nat)×St):=[])
 (h:(Bo Tryz.prog GG Am 400 k S ⟨c,o,z,tg⟩).bind (J3 (Gu 0 fr) σ L ks)=some (.at k',fr,h',v,w,[],[],true):=by kernel_rfl) (hc:Hd k'=true:=by kernel_rfl):Aq Tryz.prog GG F B L Y Q k S:=
 BJ.gS hX.x Am 400 (Gu 0 fr) σ tg hl ks hz k' fr h' h hc hk
theorem gs [hX:HC F] (Am:BU) (σ:List Nat) (hl:HS c o z v) (k':List KI) (fr:List DV) (h':DH) (hk:Aq Tryz.prog GG F B L Y Q k' ⟨fr,h'⟩) (tg:List (List (Nat×Nat)×St):=[])
 (h:(Bo Tryz.prog GG Am 400 k S ⟨c,o,z,tg⟩).bind (J3 (Gu 0 fr) σ L [])=some (.at k',fr,h',v,[],[],[],true):=by kernel_rfl) (hc:Hd k'=true:=by kernel_rfl):Aq Tryz.prog GG F B L Y Q k S:=
 BJ.gS hX.x Am 400 (Gu 0 fr) σ tg hl [] H0 k' fr h' h hc hk
theorem gg [hX:HC F] (Am:BU) (σ:List Nat) (hl:HS c o z v) (hk:Aq Tryz.prog GG F B L Y Q k' ⟨fr,h'⟩) (tg:List (List (Nat×Nat)×St):=[])
 (h:(Bo Tryz.prog GG Am 400 k S ⟨c,o,z,tg⟩).bind (J3 (Gu 0 fr) σ L [])=some (.at k',fr,h',v,[],[],[],true):=by kernel_rfl) (hc:Hd k'=true:=by kernel_rfl):Aq Tryz.prog GG F B L Y Q k S:=
 BJ.gS hX.x Am 400 (Gu 0 fr) σ tg hl [] H0 k' fr h' h hc hk
theorem el [hX:HC F] {fn:Func} {d:DV} (Am:BU) (live σ:List Nat) (hl:HS c o z v) (ks:List Nat) (hz:HS [] [] [] w) (rs:List DV) (le:AN (IE rs) d) (tg:List (List (Nat×Nat)×St):=[])
 (h:(Bo Tryz.prog GG Am 400 k S ⟨c,o,z,tg⟩).bind (IT Tryz.prog live σ L ks fn d h2.length)=some (true,rs,h2,v,w,[],[],true):=by kernel_rfl):BJ Tryz.prog GG F B L N (FX Tryz.prog fn L d h2) k S:=
 BJ.el hX.x Am 400 live σ tg hl ks hz rs le h
theorem ez [hX:HC F] {fn:Func} {d:DV} (Am:BU) (live σ:List Nat) (hl:HS c o z v) (ks:List Nat) (hz:HS [] [] [] w) (tg:List (List (Nat×Nat)×St):=[])
 (h:(Bo Tryz.prog GG Am 400 k S ⟨c,o,z,tg⟩).bind (fun r=>(IT Tryz.prog live σ L ks fn d h2.length r).map fun q=>(q.1,IE q.2.1,q.2.2))=some (true,d,h2,v,w,[],[],true):=by kernel_rfl):BJ Tryz.prog GG F B L N (FX Tryz.prog fn L d h2) k S:=
 BJ.e hX.x Am 400 live σ tg hl ks hz h
theorem ee [hX:HC F] {fn:Func} {d:DV} (Am:BU) (live σ:List Nat) (hl:HS c o z v) (tg:List (List (Nat×Nat)×St):=[])
 (h:(Bo Tryz.prog GG Am 400 k S ⟨c,o,z,tg⟩).bind (fun r=>(IT Tryz.prog live σ L [] fn d h2.length r).map fun q=>(q.1,IE q.2.1,q.2.2))=some (true,d,h2,v,[],[],[],true):=by kernel_rfl):BJ Tryz.prog GG F B L N (FX Tryz.prog fn L d h2) k S:=
 BJ.e hX.x Am 400 live σ tg hl [] H0 h
theorem rr [hX:HC F] {ex:List Exit} {i:Nat} {e:Exit} (Am:BU) (σ:List Nat) (he:(Exit.normal::ex)[i]? =some e) (hl:HS c o z v) (tg:List (List (Nat×Nat)×St):=[])
 (h:(Bo Tryz.prog GG Am 400 k S ⟨c,o,z,tg⟩).map (WU σ L)=some (some e,h2,v,[],[],[],true):=by kernel_rfl):BJ Tryz.prog GG F B L N (C8 L ex i h2) k S:=
 BJ.r hX.x Am 400 σ tg hl he h
theorem ag [hX:HC F] {Q:Exit -> St -> Prop} {assign body:Code} (Am:BU) (σ:List Nat) (hl:HS c o z v) (fr:List DV) (h':DH) (hk: ∀ N2:BS Tryz.prog GG L,BJ Tryz.prog GG F B L N2 Q [.code body] ⟨fr,h'⟩)
 (h:(Bo Tryz.prog GG Am 400 [.code assign] S ⟨c,o,z,[]⟩).map (Pe (Gu 0 fr) σ L)=some (.at [],fr,h',v,[],[],true):=by kernel_rfl):Fs Tryz.prog GG F B L N Q assign body S:=
 Fs.g hX.x Am 400 (Gu 0 fr) σ hl fr h' h hk
theorem rd {n m:Nat} (hm:n+1<=m) (h: ∀ m,n<=m -> Aq Tryz.prog GG F B L Y Q (Z3 m k) S) (hk:Li k=true:=by kernel_rfl):Aq Tryz.prog GG F B L Y Q (Ai m k) S:=BJ.round hm hk h
theorem en (m:Nat) (h:Aq Tryz.prog GG F B L Y Q (Ai m k) S) (hk:Li k=true:=by kernel_rfl):Aq Tryz.prog GG F B L Y Q k S:=BJ.enter m hk h
end
theorem em {f:Nat} {ds:List DV} {h:DH} {d:DV} {h':DH} {ext:Bool} (EC:ES Tryz.prog GG f ds h d h' ext) (σ:List Nat) (H:DH) (hb:Kc σ H.length h.length h'.length=true:=by kernel_rfl) (hh:(σ.map fun k=>H.getD k none)=h.map (Ca σ H.length):=by kernel_rfl):ES Tryz.prog GG f (ds.map (up σ H.length)) H (up σ H.length d) (Cf H σ h') ext:=ES.emC EC σ H hb hh
theorem es {f:Nat} {ds:List DV} {h:DH} {d:DV} {h':DH} {ext:Bool} (EC:ES Tryz.prog GG f ds h d h' ext) (σ:List Nat) (H:DH) (Df:List DV) (ha:TP H σ Df ds) (hb:Kc σ H.length h.length h'.length=true:=by kernel_rfl) (hh:(σ.map fun k=>H.getD k none)=h.map (Ca σ H.length):=by kernel_rfl) (hs:(HM d&&h'.all Om)=true:=by kernel_rfl):ES Tryz.prog GG f Df H (up σ H.length d) (Cf H σ h') ext:=ES.embedSB EC σ H ha hb hh hs
theorem fb {f:Nat} {ds:List DV} {d:DV} (h0:ES Tryz.prog GG f ds [] d [] true) (h:DH) (E6:ds.all GQ=true:=by kernel_rfl):ES Tryz.prog GG f ds h d h true:=ES.frameB h0 h E6
theorem sb {f:Nat} (ds:List DV) {DT:List DV} {d:DV} (h0:ES Tryz.prog GG f DT [] d [] true) (h:DH) (hs:Kj h ds DT) (hd:SB d=true:=by kernel_rfl):ES Tryz.prog GG f ds h d h true:=ES.snapB h0 h hs hd
theorem ot {f:Nat} {fn:Func} {ds:List DV} {h:DH} {d:DV} {h':DH} {ext:Bool} (hf:Tryz.prog.funcs[f]? =some fn) (H: ∀ (B:Nat) (N:BS Tryz.prog GG h.length),BJ Tryz.prog GG Fence.wide (some B) h.length N (FX Tryz.prog fn h.length d h') (start fn) ⟨ds++List.replicate (fn.ntmps-ds.length) .any,h⟩)
 (hb:fn.body.isSome=true:=by kernel_rfl) (JK:(fn.name== "runtime.NumGoroutine")=false:=by kernel_rfl) (hni:h'.all Wg=true:=by kernel_rfl) (If:(!ext||h.isEmpty)=true:=by kernel_rfl):ES Tryz.prog GG f ds h d h' ext:=
 ES.of_trk hf hb JK (dH hni) (fun e=>by subst e;simpa using If) H
section
variable {F:Fence} {B L:Nat} {Y:BS Tryz.prog GG L} {Q:QY Tryz.prog GG L} {fr:List DV} {h:DH} {K:List KI} {a b:Code} {α σ:Type} {l:List α} {H:σ -> DH} {FR:α -> List DV}
theorem rx [hX:HC F] (ex:List Exit) (kk t:Nat) (ps:Array Tmp) (enc:α -> Array Value) (L':Nat) {f:α -> σ -> Option (σ×Nat)} {s0:σ} {rE:σ×Nat} (hf:ED f l s0=some rE)
 (DF: ∀ (l B:Nat) (N:BS Tryz.prog GG L') (x:α) (s:σ) (r:σ×Nat),f x s=some r -> Fs Tryz.prog GG (Fence.wide.inRound l) (some B) L' N (C8 L' ex r.2 (H r.1)) a b ⟨FR x,H s⟩)
 (Dv: ∀ e,(Exit.normal::ex)[rE.2]? =some e -> DJ Tryz.prog GG F (some B) L Q (Dk K) e ⟨fr,H rE.1⟩ Y) (Ig:(ex.all fun e=>(JS e).isSome)=true:=by kernel_rfl)
 (hK:LD K=some (.tmp t,ps,a,b,Dk K):=by kernel_rfl) (hg:AY fr (.tmp t)= .it kk:=by kernel_rfl) (hk:h[kk]? =some (some (.iter (l.map enc))):=by kernel_rfl) (Db: ∀ x,(enc x).size=ps.size:=by exact fun _=>rfl) (hL:Nat.ble L L'=true:=by kernel_rfl) (Fp:fr.all (F0 L')=true:=by kernel_rfl) (h0:h.set kk none=H s0:=by kernel_rfl) (Du:(fun x=>Iv fr ps.toList (enc x).toList)=FR:=by kernel_rfl):Aq Tryz.prog GG F (some B) L Y Q K ⟨fr,h⟩:=
 BJ.rg hX.w ex Ig kk t ps enc L' hf DF hK hg hk Db hL Fp h0 Du Dv
theorem r0 [hX:HC F] (kk t:Nat) (ps:Array Tmp) (enc:α -> Array Value) (L':Nat) {f:α -> σ -> Option σ} {s0 sE:σ} (hf:Bz f l s0=some sE)
 (DF: ∀ (l B:Nat) (N:BS Tryz.prog GG L') (x:α) (s r:σ),f x s=some r -> Fs Tryz.prog GG (Fence.wide.inRound l) (some B) L' N (C8 L' [] 0 (H r)) a b ⟨FR x,H s⟩)
 (Dv:Aq Tryz.prog GG F (some B) L Y Q (Dk K) ⟨fr,H sE⟩)
 (hK:LD K=some (.tmp t,ps,a,b,Dk K):=by kernel_rfl) (hg:AY fr (.tmp t)= .it kk:=by kernel_rfl) (hk:h[kk]? =some (some (.iter (l.map enc))):=by kernel_rfl) (Db: ∀ x,(enc x).size=ps.size:=by exact fun _=>rfl) (hL:Nat.ble L L'=true:=by kernel_rfl) (Fp:fr.all (F0 L')=true:=by kernel_rfl) (h0:h.set kk none=H s0:=by kernel_rfl) (Du:(fun x=>Iv fr ps.toList (enc x).toList)=FR:=by kernel_rfl):Aq Tryz.prog GG F (some B) L Y Q K ⟨fr,h⟩:=
 BJ.rg0 hX.w kk t ps enc L' hf DF hK hg hk Db hL Fp h0 Du Dv
end
abbrev Yd (L:Nat):=BS Tryz.prog GG L
abbrev EQ:=ES Tryz.prog GG
abbrev FQ:=FX Tryz.prog
abbrev TW (B:Nat) {L:Nat} (N:Yd L) (Q:Exit -> St -> Prop) (k:List KI) (S:St):Prop:=BJ Tryz.prog GG Fence.wide (some B) L N Q k S
abbrev TA (l B:Nat) {L:Nat} (N:Yd L) (Q:Exit -> St -> Prop) (fn:Func) (t:Nat) (S:St):Prop:=Fs Tryz.prog GG (Fence.wide.inRound l) (some B) L N Q (mz fn t) (SR fn t) S
abbrev Al {X R:Type} (m:Nat -> X -> Option R) (T:Nat -> R -> X -> Prop):Prop:=∀ n x r,m n x=some r -> T n r x
theorem ia {X R:Type} {m:Nat -> X -> Option R} {T:Nat -> R -> X -> Prop} (h0: ∀ x,m 0 x=none) (h: ∀ n,(∀ x r,m n x=some r -> T n r x) -> ∀ x r,m (n+1) x=some r -> T (n+1) r x):Al m T
 | 0,x,_,e=>by rw [h0 x] at e;cases e
 | n+1,x,r,e=>h n (ia h0 h n) x r e
/-A proof in Z6 shape of jP was read off:jP holds of each way on,Z6 hints gathered so F9. -/
def Gt {R:Type} (T:R -> Prop) (c:List (DV×DH×Bool)) (o:List (Nat×DV)) (z:List (Nat×Fz)) (v:List Prop) (A:Option R):Prop:=HS c o z v -> ∀ r,A=some r -> T r
section
variable {R R':Type} {T:R -> Prop} {c:List (DV×DH×Bool)} {o:List (Nat×DV)} {z:List (Nat×Fz)} {v:List Prop} {A A':Option R} {r0:R} {b b':Bool} {p q:Prop} {f:Nat} {ds:List DV} {h h':DH} {d d':DV} {e:Bool} {xi:Int}
theorem gO {F:Fence} {B:Option Nat} {L:Nat} {Y:Yd L} {Q:R -> QY Tryz.prog GG L} {k:List KI} {S:St} (t:Gt (fun r=>Aq Tryz.prog GG F B L Y (Q r) k S) [] [] [] [] A): ∀ r,A=some r -> Aq Tryz.prog GG F B L Y (Q r) k S:=t H0
theorem rO (t:Gt T [] [] [] [] A):Gt T c o z v A:=fun _=>t H0
theorem nO:Gt T c o z v none:=fun _ _ h=>by cases h
theorem lF (x:HS c o z v -> T r0):Gt T c o z v (some r0):=fun p _ h=>yK h▸x p
theorem bn (x:b=true -> Gt T c o z v A) (y:b=false -> Gt T c o z v A'):Gt T c o z v (bif b then A else A'):=fun p r h=>(JV h).elim (fun h=>x h.1 p r h.2) (fun h=>y h.1 p r h.2)
theorem bj (t:Nat) (x:b=true -> Gt T c (o++[(t,.bool true)]) z (v++[AN (.bool b) (.bool true)]) A) (y:b=false -> Gt T c (o++[(t,.bool false)]) z (v++[AN (.bool b) (.bool false)]) A'):Gt T c o z v (bif b then A else A'):=bn (fun h p=>x h (p.b t h)) (fun h p=>y h (p.b t h))
theorem bi (t:Nat) (x:Gt T c (o++[(t,.bool true)]) z (v++[AN (.bool b) (.bool true)]) A) (y:Gt T c (o++[(t,.bool false)]) z (v++[AN (.bool b) (.bool false)]) A'):Gt T c o z v (bif b then A else A'):=bj t (fun _=>x) (fun _=>y)
theorem gn {_:Decidable p} (x:p -> Gt T c o z v A):Gt T c o z v (if p then A else none):=fun w r h=>x (E8 h).1 w r (E8 h).2
theorem gi {_:Decidable p} (x:Gt T c o z (v++[p]) A):Gt T c o z v (if p then A else none):=gn fun g w=>x (w.g g)
theorem gc {_:Decidable p} {_:Decidable q} (x:Gt T c o z v (if p then (if q then A else none) else none)):Gt T c o z v (if p/\ q then A else none):=fun w r h=>x w r (by obtain ⟨⟨hp,hq⟩,h⟩:=E8 h;rw [yC hp,yC hq];exact h)
theorem gw {_:Decidable (AH xi)} (t:Nat) (x:Gt T c (o++[(t,.int .i64 xi)]) z (v++[AN (.int .i64 (IntKind.i64.wrap xi)) (.int .i64 xi)]) A):Gt T c o z v (if AH xi then A else none):=gn fun g w=>x (w.w t g)
theorem cn {F:Option R'} {A:R' -> Option R} (x: ∀ y,F=some y -> Gt T c o z v (A y)):Gt T c o z v (F.bind A):=fun w r h=>let ⟨y,hy,h⟩:=iP h;x y hy w r h
theorem cf {F:Option R'} {A:R' -> Option R} {d:R' -> DV} (k: ∀ {y},F=some y -> ES Tryz.prog GG f ds [] (d y) [] true) (h:DH) (x: ∀ y,Gt T (c++[(d y,h,true)]) o z (v++[ES Tryz.prog GG f ds h (d y) h true]) (A y)) (E6:ds.all GQ=true:=by kernel_rfl):Gt T c o z v (F.bind A):=cn fun y hy w=>x y (w.c (fb (k hy) h E6))
theorem ce {F:Option R'} {A:R' -> Option R} {d:R' -> DV} {h':R' -> DH} (k: ∀ {y},F=some y -> ES Tryz.prog GG f ds h (d y) (h' y) e) (σ:List Nat) (H:DH) (x: ∀ y,Gt T (c++[(up σ H.length (d y),Cf H σ (h' y),e)]) o z (v++[ES Tryz.prog GG f (ds.map (up σ H.length)) H (up σ H.length (d y)) (Cf H σ (h' y)) e]) (A y)) (hb: ∀ y,Kc σ H.length h.length (h' y).length=true:=by intro;kernel_rfl) (hh:(σ.map fun k=>H.getD k none)=h.map (Ca σ H.length):=by kernel_rfl):Gt T c o z v (F.bind A):=cn fun y hy w=>x y (w.c (em (k hy) σ H (hb y) hh))
theorem jb (t:Nat) (g:b=b') (x:Gt T c (o++[(t,.bool b')]) z (v++[AN (.bool b) (.bool b')]) A):Gt T c o z v A:=fun w=>x (w.b t g)
theorem jw (t:Nat) (g:AH xi) (x:Gt T c (o++[(t,.int .i64 xi)]) z (v++[AN (.int .i64 (IntKind.i64.wrap xi)) (.int .i64 xi)]) A):Gt T c o z v A:=fun w=>x (w.w t g)
theorem jg (g:p) (x:Gt T c o z (v++[p]) A):Gt T c o z v A:=fun w=>x (w.g g)
theorem jt (x:Gt T c o z (v++[True]) A):Gt T c o z v A:=fun w=>x w.t
theorem jo (t:Nat) (g:AN d d') (x:Gt T c (o++[(t,d')]) z (v++[AN d d']) A):Gt T c o z v A:=fun w=>x (w.o t g)
theorem jc (g:ES Tryz.prog GG f ds h d h' e) (x:Gt T (c++[(d,h',e)]) o z (v++[ES Tryz.prog GG f ds h d h' e]) A):Gt T c o z v A:=fun w=>x (w.c g)
theorem ja (t k m:Nat) {n n':Nat} {f f':Nat -> Nat -> DV} (g:n=n'/\ ∀ i j,i<n -> j<m -> AN (f i j) (f' i j)) (x:Gt T c o (z++[(t,.arr k n' f')]) (v++[n=n'/\ ∀ i j,i<n -> j<m -> AN (f i j) (f' i j)]) A):Gt T c o z v A:=fun w=>x (w.a t k m g)
theorem jz (t k:Nat) (x:Gt T c o (z++[(t,.frz k)]) v A):Gt T c o z v A:=fun w=>x (w.z t k)
theorem ju (t k:Nat) (x:Gt T c o (z++[(t,.unf k)]) v A):Gt T c o z v A:=fun w=>x (w.u t k)
end
section
variable {R:Type} {c:List (DV×DH×Bool)} {o:List (Nat×DV)} {z:List (Nat×Fz)} {v:List Prop} {A:Option R} {r0:R} {F:Fence} {B:Option Nat} {L:Nat} {Y N:BS Tryz.prog GG L} {k k':List KI} {S:St} {fr:List DV} {h':DH}
theorem lG [hX:HC F] (Am:BU) (σ:List Nat) {Q:R -> QY Tryz.prog GG L} (hk: ∀ {r},A=some r -> Aq Tryz.prog GG F B L Y (Q r) k' ⟨fr,h'⟩) (tg:List (List (Nat×Nat)×St):=[])
 (h:(Bo Tryz.prog GG Am 400 k S ⟨c,o,z,tg⟩).bind (J3 (Gu 0 fr) σ L [])=some (.at k',fr,h',v,[],[],[],true):=by kernel_rfl) (hc:Hd k'=true:=by kernel_rfl):Gt (fun r=>Aq Tryz.prog GG F B L Y (Q r) k S) c o z v A:=
 fun p _ e=>gg Am σ p (hk e) tg h hc
theorem lN [hX:HC F] {m:Nat} (Am:BU) (σ:List Nat) {Q:R -> QY Tryz.prog GG L} (hk: ∀ {r},A=some r -> Aq Tryz.prog GG F B L Y (Q r) (Ai m k') ⟨fr,h'⟩) (tg:List (List (Nat×Nat)×St):=[])
 (h:(Bo Tryz.prog GG Am 400 k S ⟨c,o,z,tg⟩).bind (J3 (Gu 0 fr) σ L [])=some (.at k',fr,h',v,[],[],[],true):=by kernel_rfl) (hc:Hd k'=true:=by kernel_rfl) (hm:Li k'=true:=by kernel_rfl):Gt (fun r=>Aq Tryz.prog GG F B L Y (Q r) k S) c o z v A:=
 lG Am σ (fun e=>en m (hk e) hm) tg h hc
theorem lE [hX:HC F] {fn:Func} {D:R -> DV} {E:R -> DH} (Am:BU) (live σ:List Nat) (tg:List (List (Nat×Nat)×St):=[])
 (h:(Bo Tryz.prog GG Am 400 k S ⟨c,o,z,tg⟩).bind (fun r=>(IT Tryz.prog live σ L [] fn (D r0) (E r0).length r).map fun q=>(q.1,IE q.2.1,q.2.2))=some (true,D r0,E r0,v,[],[],[],true):=by kernel_rfl):Gt (fun r=>BJ Tryz.prog GG F B L N (FX Tryz.prog fn L (D r) (E r)) k S) c o z v (some r0):=
 lF fun p=>ee Am live σ p tg h
end
end Go.Proofs.YtekkngkphejfcaaGreatDoor
namespace Go.Proofs.YtekkngkphejfcaaGreatDoor
abbrev yw:=@Nat.le_of_succ_le
end Go.Proofs.YtekkngkphejfcaaGreatDoor
namespace Go.Proofs.YtekkngkphejfcaaGreatDoor
open Go.RowKit
set_option maxRecDepth 100000
set_option maxHeartbeats 40000000
inductive UH where
 | l1 (x5:Int)
def YP (n:Nat) (self:UH -> Option Bool) (l_:List Int) (n_:Int) (x5:Int):Option Bool:=
 bif (decide (x5<(l_.length:Int))) then
  if 0<=x5/\ x5<(l_.length:Int) then
   bif ((l_.getD ((x5).toNat) 0)==n_) then
    some true
   else
    if AH (x5+1) then
     self (.l1 (x5+1))
    else none
  else none
 else
  some false
def fX (n:Nat) (self:UH -> Option Bool) (l_:List Int) (n_:Int):Option Bool:=
 self (.l1 0)
def Na (l_:List Int) (n_:Int):Nat -> UH -> Option Bool
 | 0,_=>none
 | n+1,.l1 x5=>YP n (Na l_ n_ n) l_ n_ x5
def has (n:Nat) (l_:List Int) (n_:Int):Option Bool:=fX n (Na l_ n_ n) l_ n_
def uX (n B:Nat) (N:Yd 0) (l_:List Int) (n_:Int) (r:Bool):UH -> Prop
 | .l1 x5=>∀ m0:Nat,n<=m0 -> TW B N (FQ Tryz.f102 0 (.bool r) []) (Ai m0 (Ap (AZ Tryz.f102) 0 [])) ⟨AL 18 [(0,.ints l_),(1,.i n_),(5,.i x5)],[]⟩
theorem uY (B:Nat) (N:Yd 0) (l_:List Int) (n_:Int):Al (Na l_ n_) (uX · B N l_ n_):=ia (fun _=>rfl) fun n AF pt r h=>by
 cases pt
 case l1 x5=>
  intro m0 AC;refine rd AC fun m0 AC=>?_
  revert r;apply gO;exact bi 9 (gi (bi 17 (lE AE [4] []) (gw 11 (lG AE [] (AF _ _ · m0 AC))))) (lE AE [4] [])
theorem fW {n:Nat} {l_:List Int} {n_:Int} {r:Bool} (h:has n l_ n_=some r):EQ 102 [.ints l_,.i n_] [] (.bool r) [] true:=by
 refine ot Tryz.func102 fun B N=>?_
 revert r;apply gO;exact lN AE [] ((uY B N l_ n_ n) _ _ · n Nat.le.refl)
inductive VB where
 | l1 (x7:Int)
def Y5 (n:Nat) (self:VB -> Option Bool) (l_:List Int) (lo hi:Int) (x7:Int):Option Bool:=
 bif (decide (x7<(l_.length:Int))) then
  if 0<=x7/\ x7<(l_.length:Int) then
   bif (decide ((l_.getD ((x7).toNat) 0)<lo)) then
    some false
   else
    bif (decide ((l_.getD ((x7).toNat) 0)>hi)) then
     some false
    else
     if AH (x7+1) then
      self (.l1 (x7+1))
     else none
  else none
 else
  some true
def iQ (n:Nat) (self:VB -> Option Bool) (l_:List Int) (lo hi:Int):Option Bool:=
 self (.l1 0)
def OB (l_:List Int) (lo hi:Int):Nat -> VB -> Option Bool
 | 0,_=>none
 | n+1,.l1 x7=>Y5 n (OB l_ lo hi n) l_ lo hi x7
def Kh (n:Nat) (l_:List Int) (lo hi:Int):Option Bool:=iQ n (OB l_ lo hi n) l_ lo hi
def xD (n B:Nat) (N:Yd 0) (l_:List Int) (lo hi:Int) (r:Bool):VB -> Prop
 | .l1 x7=>∀ m0:Nat,n<=m0 -> TW B N (FQ Tryz.f74 0 (.bool r) []) (Ai m0 (Ap (AZ Tryz.f74) 0 [])) ⟨AL 28 [(0,.ints l_),(1,.i lo),(2,.i hi),(7,.i x7)],[]⟩
theorem xE (B:Nat) (N:Yd 0) (l_:List Int) (lo hi:Int):Al (OB l_ lo hi) (xD · B N l_ lo hi):=ia (fun _=>rfl) fun n AF pt r h=>by
 cases pt
 case l1 x7=>
  intro m0 AC;refine rd AC fun m0 AC=>?_
  revert r;apply gO;exact bi 11 (gn fun g0=>jg g0 (bi 19 (lE AE [6] []) (jg g0 (bi 26 (lE AE [6] []) (gw 13 (lG AE [] (AF _ _ · m0 AC))))))) (lE AE [6] [])
theorem RP {n:Nat} {l_:List Int} {lo hi:Int} {r:Bool} (h:Kh n l_ lo hi=some r):EQ 74 [.ints l_,.i lo,.i hi] [] (.bool r) [] true:=by
 refine ot Tryz.func74 fun B N=>?_
 revert r;apply gO;exact lN AE [] ((xE B N l_ lo hi n) _ _ · n Nat.le.refl)
theorem lu:Aj (BA Tryz.f103 7) [] (List.range 9) []:=by unfold Aj;kernel_rfl
def Mk:BU:=fun i=>match i with
 | 7=>.ord [] (List.range 9) []
 | _=>.no
inductive Nw where
 | l1 (x3:Int)
 | l2 (x3 x4:Int)
def Yp (n:Nat) (self:Nw -> Option Bool) (l_:List Int) (x3:Int):Option Bool:=
 bif (decide (x3<(l_.length:Int))) then
  self (.l2 x3 0)
 else
  some true
def Ul (n:Nat) (self:Nw -> Option Bool) (l_:List Int) (x3 x4:Int):Option Bool:=
 bif (decide (x4<x3)) then
  if (0<=x3/\ x3<(l_.length:Int))/\ (0<=x4/\ x4<(l_.length:Int)) then
   bif ((l_.getD ((x3).toNat) 0)==(l_.getD ((x4).toNat) 0)) then
    some false
   else
    if AH (x4+1) then
     self (.l2 x3 (x4+1))
    else none
  else none
 else
  if AH (x3+1) then
   self (.l1 (x3+1))
  else none
def gt (n:Nat) (self:Nw -> Option Bool) (l_:List Int):Option Bool:=
 self (.l1 0)
def Ht (l_:List Int):Nat -> Nw -> Option Bool
 | 0,_=>none
 | n+1,.l1 x3=>Yp n (Ht l_ n) l_ x3
 | n+1,.l2 x3 x4=>Ul n (Ht l_ n) l_ x3 x4
def Un (n:Nat) (l_:List Int):Option Bool:=gt n (Ht l_ n) l_
def v6 (n B:Nat) (N:Yd 0) (l_:List Int) (r:Bool):Nw -> Prop
 | .l1 x3=>∀ m0:Nat,n<=m0 -> TW B N (FQ Tryz.f103 0 (.bool r) []) (Ai m0 (Ap (AZ Tryz.f103) 0 [])) ⟨AL 25 [(0,.ints l_),(3,.i x3)],[]⟩
 | .l2 x3 x4=>∀ m0 m1:Nat,n<=m0 -> n<=m1 -> TW B N (FQ Tryz.f103 0 (.bool r) []) (Ai m1 (Ap (AZ Tryz.f103) 2 [m0])) ⟨AL 25 [(0,.ints l_),(3,.i x3),(4,.i x4)],[]⟩
theorem v7 (B:Nat) (N:Yd 0) (l_:List Int):Al (Ht l_) (v6 · B N l_):=ia (fun _=>rfl) fun n AF pt r h=>by
 cases pt
 case l1 x3=>
  intro m0 AC;refine rd AC fun m0 AC=>?_
  revert r;apply gO;exact bi 8 (lN Mk [] (AF _ _ · m0 n AC Nat.le.refl)) (lE Mk [2] [])
 case l2 x3 x4=>
  intro m0 m1 AC Af;have AC:=yw AC;refine rd Af fun m1 Af=>?_
  revert r;apply gO;exact bi 13 (jg lu (gc (gi (gi (bi 24 (lE Mk [2] []) (gw 15 (lG Mk [] (AF _ _ · m0 m1 AC Af)))))))) (gw 10 (lG Mk [] (AF _ _ · m0 AC)))
theorem vw {n:Nat} {l_:List Int} {r:Bool} (h:Un n l_=some r):EQ 103 [.ints l_] [] (.bool r) [] true:=by
 refine ot Tryz.func103 fun B N=>?_
 revert r;apply gO;exact lN Mk [] ((v7 B N l_ n) _ _ · n Nat.le.refl)
inductive Tj where
 | l1 (x8:Int)
def XH (n:Nat) (self:Tj -> Option Int) (s_:List Int) (v:Int) (x8:Int):Option Int:=
 bif (decide (x8<(s_.length:Int))) then
  if 0<=x8/\ x8<(s_.length:Int) then
   bif (v==(s_.getD ((x8).toNat) 0)) then
    some x8
   else
    if AH (x8+1) then
     self (.l1 (x8+1))
    else none
  else none
 else
  some (-1)
def eB (n:Nat) (self:Tj -> Option Int) (s_:List Int) (v:Int):Option Int:=
 self (.l1 0)
def Ll (s_:List Int) (v:Int):Nat -> Tj -> Option Int
 | 0,_=>none
 | n+1,.l1 x8=>XH n (Ll s_ v n) s_ v x8
def Tk (n:Nat) (s_:List Int) (v:Int):Option Int:=eB n (Ll s_ v n) s_ v
def qg (n B:Nat) (N:Yd 0) (s_:List Int) (v:Int) (r:Int):Tj -> Prop
 | .l1 x8=>∀ m0:Nat,n<=m0 -> TW B N (FQ Tryz.f125 0 (.i r) []) (Ai m0 (Ap (AZ Tryz.f125) 0 [])) ⟨AL 19 [(0,.ints s_),(1,.i v),(7,.i (s_.length:Int)),(8,.i x8)],[]⟩
theorem qh (B:Nat) (N:Yd 0) (s_:List Int) (v:Int):Al (Ll s_ v) (qg · B N s_ v):=ia (fun _=>rfl) fun n AF pt r h=>by
 cases pt
 case l1 x8=>
  intro m0 AC;refine rd AC fun m0 AC=>?_
  revert r;apply gO;exact bi 9 (gi (bi 16 (lE AE [4] []) (gw 18 (lG AE [] (AF _ _ · m0 AC))))) (lE AE [4] [])
theorem qf {n:Nat} {s_:List Int} {v:Int} {r:Int} (h:Tk n s_ v=some r):EQ 125 [.ints s_,.i v] [] (.i r) [] true:=by
 refine ot Tryz.func125 fun B N=>?_
 revert r;apply gO;exact lN AE [] ((qh B N s_ v n) _ _ · n Nat.le.refl)
inductive Tn where
 | l1 (x8:Int)
def P8 (n:Nat) (self:Tn -> Option Int) (s_:List Bool) (v:Bool) (x8:Int):Option Int:=
 bif (decide (x8<(s_.length:Int))) then
  if 0<=x8/\ x8<(s_.length:Int) then
   bif (v==(s_.getD ((x8).toNat) false)) then
    some x8
   else
    if AH (x8+1) then
     self (.l1 (x8+1))
    else none
  else none
 else
  some (-1)
def qo (n:Nat) (self:Tn -> Option Int) (s_:List Bool) (v:Bool):Option Int:=
 self (.l1 0)
def JG (s_:List Bool) (v:Bool):Nat -> Tn -> Option Int
 | 0,_=>none
 | n+1,.l1 x8=>P8 n (JG s_ v n) s_ v x8
def To (n:Nat) (s_:List Bool) (v:Bool):Option Int:=qo n (JG s_ v n) s_ v
def qp (n B:Nat) (N:Yd 0) (s_:List Bool) (v:Bool) (r:Int):Tn -> Prop
 | .l1 x8=>∀ m0:Nat,n<=m0 -> TW B N (FQ Tryz.f108 0 (.i r) []) (Ai m0 (Ap (AZ Tryz.f108) 0 [])) ⟨AL 19 [(0,.bools s_),(1,.bool v),(7,.i (s_.length:Int)),(8,.i x8)],[]⟩
theorem qq (B:Nat) (N:Yd 0) (s_:List Bool) (v:Bool):Al (JG s_ v) (qp · B N s_ v):=ia (fun _=>rfl) fun n AF pt r h=>by
 cases pt
 case l1 x8=>
  intro m0 AC;refine rd AC fun m0 AC=>?_
  revert r;apply gO;exact bi 9 (gi (bi 16 (lE AE [4] []) (gw 18 (lG AE [] (AF _ _ · m0 AC))))) (lE AE [4] [])
theorem qn {n:Nat} {s_:List Bool} {v:Bool} {r:Int} (h:To n s_ v=some r):EQ 108 [.bools s_,.bool v] [] (.i r) [] true:=by
 refine ot Tryz.func108 fun B N=>?_
 revert r;apply gO;exact lN AE [] ((qq B N s_ v n) _ _ · n Nat.le.refl)
def Yu (n:Nat) (s_:List Int) (v:Int):Option Bool:=
 (Tk n s_ v).bind fun y1=>
  some (decide (y1>=0))
def Kf (n:Nat) (s_:List Int) (v:Int):Option Bool:=Yu n s_ v
theorem g7 {n:Nat} {s_:List Int} {v:Int} {r:Bool} (h:Kf n s_ v=some r):EQ 105 [.ints s_,.i v] [] (.bool r) [] true:=by
 unfold Kf Yu at h;refine ot Tryz.func105 fun B N=>?_
 revert r;apply gO;exact cf qf [] fun _=>lE AE [4] []
inductive Mu where
 | l1 (x3:Int)
 | l2 (x3 x4:Int)
def WB (n:Nat) (self:Mu -> Option Int) (g_:List (List Int)) (x3:Int):Option Int:=
 bif (decide (x3<(g_.length:Int))) then
  self (.l2 x3 0)
 else
  some 0
def Sa (n:Nat) (self:Mu -> Option Int) (g_:List (List Int)) (x3 x4:Int):Option Int:=
 if 0<=x3/\ x3<(g_.length:Int) then
  bif (decide (x4<(((g_.getD ((x3).toNat) []).length:Nat):Int))) then
   if 0<=x4/\ x4<(((g_.getD ((x3).toNat) []).length:Nat):Int) then
    bif (decide (((g_.getD ((x3).toNat) []).getD ((x4).toNat) 0)<0)) then
     some 120
    else
     bif (decide (((g_.getD ((x3).toNat) []).getD ((x4).toNat) 0)>=(g_.length:Int))) then
      some 120
     else
      bif (((g_.getD ((x3).toNat) []).getD ((x4).toNat) 0)==x3) then
       some 120
      else
       bif (decide (x4>0)) then
        if AH (x4-1)/\ (0<=(x4-1)/\ (x4-1)<(((g_.getD ((x3).toNat) []).length:Nat):Int)) then
         bif (decide (((g_.getD ((x3).toNat) []).getD (((x4-1)).toNat) 0)>=((g_.getD ((x3).toNat) []).getD ((x4).toNat) 0))) then
          some 120
         else
          if (0:Int)<=((g_.getD ((x3).toNat) []).getD ((x4).toNat) 0)/\ ((g_.getD ((x3).toNat) []).getD ((x4).toNat) 0)<(g_.length:Int) then
           (has n (g_.getD (((g_.getD ((x3).toNat) []).getD ((x4).toNat) 0).toNat) []) x3).bind fun y1=>
            bif (!y1) then
             some 120
            else
             if AH (x4+1) then
              self (.l2 x3 (x4+1))
             else none
          else none
        else none
       else
        if (0:Int)<=((g_.getD ((x3).toNat) []).getD ((x4).toNat) 0)/\ ((g_.getD ((x3).toNat) []).getD ((x4).toNat) 0)<(g_.length:Int) then
         (has n (g_.getD (((g_.getD ((x3).toNat) []).getD ((x4).toNat) 0).toNat) []) x3).bind fun y1=>
          bif (!y1) then
           some 120
          else
           if AH (x4+1) then
            self (.l2 x3 (x4+1))
           else none
        else none
   else none
  else
   if AH (x3+1) then
    self (.l1 (x3+1))
   else none
 else none
def b5 (n:Nat) (self:Mu -> Option Int) (g_:List (List Int)):Option Int:=
 bif (decide ((g_.length:Int)>256)) then
  some 120
 else
  self (.l1 0)
def HT (g_:List (List Int)):Nat -> Mu -> Option Int
 | 0,_=>none
 | n+1,.l1 x3=>WB n (HT g_ n) g_ x3
 | n+1,.l2 x3 x4=>Sa n (HT g_ n) g_ x3 x4
def Sb (n:Nat) (g_:List (List Int)):Option Int:=b5 n (HT g_ n) g_
def nV (n B:Nat) (N:Yd 0) (g_:List (List Int)) (r:Int):Mu -> Prop
 | .l1 x3=>∀ m0:Nat,n<=m0 -> TW B N (FQ Tryz.f75 0 (.i r) []) (Ai m0 (Ap (AZ Tryz.f75) 0 [])) ⟨AL 69 [(0,.sl 1 g_.length (Ak BD g_)),(3,.i x3)],[]⟩
 | .l2 x3 x4=>∀ m0 m1:Nat,n<=m0 -> n<=m1 -> TW B N (FQ Tryz.f75 0 (.i r) []) (Ai m1 (Ap (AZ Tryz.f75) 2 [m0])) ⟨AL 69 [(0,.sl 1 g_.length (Ak BD g_)),(3,.i x3),(4,.i x4)],[]⟩
theorem nW (B:Nat) (N:Yd 0) (g_:List (List Int)):Al (HT g_) (nV · B N g_):=ia (fun _=>rfl) fun n AF pt r h=>by
 cases pt
 case l1 x3=>
  intro m0 AC;refine rd AC fun m0 AC=>?_
  revert r;apply gO;exact bi 12 (lN AE [] (AF _ _ · m0 n AC Nat.le.refl)) (lE AE [2] [])
 case l2 x3 x4=>
  intro m0 m1 AC Af;have AC:=yw AC;refine rd Af fun m1 Af=>?_
  revert r;apply gO;exact gn fun g0=>jg g0 (bi 21 (jg g0 (gi (bi 32 (lE AE [2] []) (bi 37 (lE AE [2] []) (bi 42 (lE AE [2] []) (bi 46 (jg g0 (gc (gw 53 (gi (bi 57 (lE AE [2] []) (gi (cf fW [] fun _=>bi 67 (lE AE [2] []) (gw 23 (lG AE [] (AF _ _ · m0 m1 AC Af)))))))))) (gi (cf fW [] fun _=>bi 67 (lE AE [2] []) (gw 23 (lG AE [] (AF _ _ · m0 m1 AC Af))))))))))) (gw 14 (lG AE [] (AF _ _ · m0 AC))))
theorem nT {n:Nat} {g_:List (List Int)} {r:Int} (h:Sb n g_=some r):EQ 75 [.sl 1 g_.length (Ak BD g_)] [] (.i r) [] true:=by
 refine ot Tryz.func75 fun B N=>?_
 revert r;apply gO;exact bi 8 (lE AE [2] []) (lN AE [] ((nW B N g_ n) _ _ · n Nat.le.refl))
inductive Nj where
 | l1 (B6:Int)
 | l2 (x3:Int) (x4:List Int) (B6:Int) (As:List Int) (Eb Bv:Int)
def Yc (n:Nat) (self:Nj -> Option Int) (g_:List (List Int)) (B6:Int):Option Int:=
 bif (decide (B6<(g_.length:Int))) then
  if 0<=B6/\ B6<(g_.length:Int) then
   self (.l2 B6 (g_.getD ((B6).toNat) []) B6 (g_.getD ((B6).toNat) []) (((g_.getD ((B6).toNat) []).length:Nat):Int) 0)
  else none
 else
  some 0
def UQ (n:Nat) (self:Nj -> Option Int) (g_:List (List Int)) (x3:Int) (x4:List Int) (B6:Int) (As:List Int) (Eb Bv:Int):Option Int:=
 bif (decide (Bv<Eb)) then
  if 0<=Bv/\ Bv<(As.length:Int) then
   bif (decide ((As.getD ((Bv).toNat) 0)<0)) then
    some 120
   else
    bif (decide ((As.getD ((Bv).toNat) 0)>=(g_.length:Int))) then
     some 120
    else
     bif ((As.getD ((Bv).toNat) 0)==x3) then
      some 120
     else
      bif (decide (Bv>0)) then
       if AH (Bv-1)/\ (0<=(Bv-1)/\ (Bv-1)<(x4.length:Int)) then
        bif (decide ((x4.getD (((Bv-1)).toNat) 0)>=(As.getD ((Bv).toNat) 0))) then
         some 120
        else
         if 0<=(As.getD ((Bv).toNat) 0)/\ (As.getD ((Bv).toNat) 0)<(g_.length:Int) then
          (Kf n (g_.getD ((As.getD ((Bv).toNat) 0).toNat) []) x3).bind fun y1=>
           bif (!y1) then
            some 120
           else
            if AH (Bv+1) then
             self (.l2 x3 x4 B6 As Eb (Bv+1))
            else none
         else none
       else none
      else
       if 0<=(As.getD ((Bv).toNat) 0)/\ (As.getD ((Bv).toNat) 0)<(g_.length:Int) then
        (Kf n (g_.getD ((As.getD ((Bv).toNat) 0).toNat) []) x3).bind fun y1=>
         bif (!y1) then
          some 120
         else
          if AH (Bv+1) then
           self (.l2 x3 x4 B6 As Eb (Bv+1))
          else none
       else none
  else none
 else
  if AH (B6+1) then
   self (.l1 (B6+1))
  else none
def f9 (n:Nat) (self:Nj -> Option Int) (g_:List (List Int)):Option Int:=
 bif (decide ((g_.length:Int)>256)) then
  some 120
 else
  self (.l1 0)
def Hr (g_:List (List Int)):Nat -> Nj -> Option Int
 | 0,_=>none
 | n+1,.l1 B6=>Yc n (Hr g_ n) g_ B6
 | n+1,.l2 x3 x4 B6 As Eb Bv=>UQ n (Hr g_ n) g_ x3 x4 B6 As Eb Bv
def Qo (n:Nat) (g_:List (List Int)):Option Int:=f9 n (Hr g_ n) g_
def u6 (n B:Nat) (N:Yd 0) (g_:List (List Int)) (r:Int):Nj -> Prop
 | .l1 B6=>∀ m0:Nat,n<=m0 -> TW B N (FQ Tryz.f78 0 (.i r) []) (Ai m0 (Ap (AZ Tryz.f78) 0 [])) ⟨AL 61 [(0,.sl 1 g_.length (Ak BD g_)),(10,.sl 1 g_.length (Ak BD g_)),(11,.i (g_.length:Int)),(12,.i B6)],[]⟩
 | .l2 x3 x4 B6 As Eb Bv=>∀ m0 m1:Nat,n<=m0 -> n<=m1 -> TW B N (FQ Tryz.f78 0 (.i r) []) (Ai m1 (Ap (AZ Tryz.f78) 2 [m0])) ⟨AL 61 [(0,.sl 1 g_.length (Ak BD g_)),(3,.i x3),(4,.ints x4),(10,.sl 1 g_.length (Ak BD g_)),(11,.i (g_.length:Int)),(12,.i B6),(17,.ints As),(18,.i Eb),(19,.i Bv)],[]⟩
theorem u7 (B:Nat) (N:Yd 0) (g_:List (List Int)):Al (Hr g_) (u6 · B N g_):=ia (fun _=>rfl) fun n AF pt r h=>by
 cases pt
 case l1 B6=>
  intro m0 AC;refine rd AC fun m0 AC=>?_
  revert r;apply gO;exact bi 13 (gi (lN AE [] (AF _ _ · m0 n AC Nat.le.refl))) (lE AE [2] [])
 case l2 x3 x4 B6 As Eb Bv=>
  intro m0 m1 AC Af;have AC:=yw AC;refine rd Af fun m1 Af=>?_
  revert r;apply gO;exact bi 20 (gi (bi 25 (lE AE [2] []) (bi 30 (lE AE [2] []) (bi 35 (lE AE [2] []) (bi 39 (gc (gw 43 (gi (bi 47 (lE AE [2] []) (gi (cf g7 [] fun _=>bi 57 (lE AE [2] []) (gw 59 (lG AE [] (AF _ _ · m0 m1 AC Af))))))))) (gi (cf g7 [] fun _=>bi 57 (lE AE [2] []) (gw 59 (lG AE [] (AF _ _ · m0 m1 AC Af)))))))))) (gw 60 (lG AE [] (AF _ _ · m0 AC)))
theorem f8 {n:Nat} {g_:List (List Int)} {r:Int} (h:Qo n g_=some r):EQ 78 [.sl 1 g_.length (Ak BD g_)] [] (.i r) [] true:=by
 refine ot Tryz.func78 fun B N=>?_
 revert r;apply gO;exact bi 9 (lE AE [2] []) (lN AE [] ((u7 B N g_ n) _ _ · n Nat.le.refl))
inductive Uf where
 | l1 (x3:Int)
def Ue (n:Nat) (self:Uf -> Option Bool) (q:AA) (x3:Int):Option Bool:=
 bif (decide (x3<(q.cons.length:Int))) then
  if 0<=x3/\ x3<(q.cons.length:Int) then
   bif (decide (((((q.cons.getD ((x3).toNat) default).cells).length:Nat):Int)>20)) then
    some false
   else
    bif (decide (((((q.cons.getD ((x3).toNat) default).runs).length:Nat):Int)>10)) then
     some false
    else
     if AH (x3+1) then
      self (.l1 (x3+1))
     else none
  else none
 else
  some true
def gM (n:Nat) (self:Uf -> Option Bool) (q:AA):Option Bool:=
 bif (decide (q.cells>16)) then
  some false
 else
  bif (decide (q.symbols>6)) then
   some false
  else
   bif (decide ((q.values.length:Int)>8)) then
    some false
   else
    bif (decide ((q.nbrs.length:Int)>20)) then
     some false
    else
     bif (decide ((q.cons.length:Int)>120)) then
      some false
     else
      self (.l1 0)
def JR (q:AA):Nat -> Uf -> Option Bool
 | 0,_=>none
 | n+1,.l1 x3=>Ue n (JR q n) q x3
def Ug (n:Nat) (q:AA):Option Bool:=gM n (JR q n) q
def vb (n B:Nat) (N:Yd 0) (q:AA) (r:Bool):Uf -> Prop
 | .l1 x3=>∀ m0:Nat,n<=m0 -> TW B N (FQ Tryz.f34 0 (.bool r) []) (Ai m0 (Ap (AZ Tryz.f34) 0 [])) ⟨AL 55 [(1,.ref 0 0),(3,.i x3)],[some (.cells (AD q))]⟩
theorem vd (B:Nat) (N:Yd 0) (q:AA):Al (JR q) (vb · B N q):=ia (fun _=>rfl) fun n AF pt r h=>by
 cases pt
 case l1 x3=>
  intro m0 AC;refine rd AC fun m0 AC=>?_
  revert r;apply gO;exact bi 34 (gn fun g0=>jg g0 (bi 44 (lE AE [2] []) (jg g0 (bi 53 (lE AE [2] []) (gw 36 (lG AE [0] (AF _ _ · m0 AC))))))) (lE AE [2] [])
theorem va {n:Nat} {q:AA} {r:Bool} (h:Ug n q=some r):EQ 34 [.agg 5 (L1 (AD q))] [] (.bool r) [] true:=by
 refine ot Tryz.func34 fun B N=>?_
 revert r;apply gO;exact bi 6 (lE AE [2] []) (bi 10 (lE AE [2] []) (bi 16 (lE AE [2] []) (bi 22 (lE AE [2] []) (bi 28 (lE AE [2] []) (lN AE [0] ((vd B N q n) _ _ · n Nat.le.refl))))))
end Go.Proofs.YtekkngkphejfcaaGreatDoor
namespace Go.Proofs.YtekkngkphejfcaaGreatDoor
open Go.RowKit
set_option maxRecDepth 100000
set_option maxHeartbeats 40000000
def Zr (n:Nat) (v lo hi:Int):Option Bool:=
 bif (decide (v<lo)) then
  some true
 else
  some (decide (v>hi))
def VU (n:Nat) (v lo hi:Int):Option Bool:=Zr n v lo hi
theorem jO {n:Nat} {v lo hi:Int} {r:Bool} (h:VU n v lo hi=some r):EQ 104 [.i v,.fp 1 (L1 [.i lo]),.fp 1 (L1 [.i hi])] [] (.bool r) [] true:=by
 refine ot Tryz.func104 fun B N=>?_
 revert r;apply gO;exact bi 7 (lE AE [4] []) (lE AE [4] [])
inductive Tg where
 | l1 (x8:Int)
def XG (n:Nat) (self:Tg -> Option Int) (l:List Int) (lo hi:Int) (x8:Int):Option Int:=
 bif (decide (x8<(l.length:Int))) then
  if 0<=x8/\ x8<(l.length:Int) then
   (VU n (l.getD ((x8).toNat) 0) lo hi).bind fun y1=>
    bif y1 then
     some x8
    else
     if AH (x8+1) then
      self (.l1 (x8+1))
     else none
  else none
 else
  some (-1)
def d9 (n:Nat) (self:Tg -> Option Int) (l:List Int) (lo hi:Int):Option Int:=
 self (.l1 0)
def Lj (l:List Int) (lo hi:Int):Nat -> Tg -> Option Int
 | 0,_=>none
 | n+1,.l1 x8=>XG n (Lj l lo hi n) l lo hi x8
def Ti (n:Nat) (l:List Int) (lo hi:Int):Option Int:=d9 n (Lj l lo hi n) l lo hi
def qZ (n B:Nat) (N:Yd 0) (l:List Int) (lo hi:Int) (r:Int):Tg -> Prop
 | .l1 x8=>∀ m0:Nat,n<=m0 -> TW B N (FQ Tryz.f52 0 (.i r) []) (Ai m0 (Ap (AZ Tryz.f52) 0 [])) ⟨AL 19 [(0,.ints l),(1,.fn 104 2 (L1 [.fp 1 (L1 [.i lo]),.fp 1 (L1 [.i hi])])),(7,.i (l.length:Int)),(8,.i x8)],[]⟩
theorem qa (B:Nat) (N:Yd 0) (l:List Int) (lo hi:Int):Al (Lj l lo hi) (qZ · B N l lo hi):=ia (fun _=>rfl) fun n AF pt r h=>by
 cases pt
 case l1 x8=>
  intro m0 AC;refine rd AC fun m0 AC=>?_
  revert r;apply gO;exact bi 9 (gi (cf jO [] fun _=>bi 16 (lE AE [4] []) (gw 18 (lG AE [] (AF _ _ · m0 AC))))) (lE AE [4] [])
theorem qX {n:Nat} {l:List Int} {lo hi:Int} {r:Int} (h:Ti n l lo hi=some r):EQ 52 [.ints l,.fn 104 2 (L1 [.fp 1 (L1 [.i lo]),.fp 1 (L1 [.i hi])])] [] (.i r) [] true:=by
 refine ot Tryz.func52 fun B N=>?_
 revert r;apply gO;exact lN AE [] ((qa B N l lo hi n) _ _ · n Nat.le.refl)
def Yt (n:Nat) (l:List Int) (lo hi:Int):Option Bool:=
 (Ti n l lo hi).bind fun y1=>
  some (decide (y1>=0))
def Uu (n:Nat) (l:List Int) (lo hi:Int):Option Bool:=Yt n l lo hi
theorem wV {n:Nat} {l:List Int} {lo hi:Int} {r:Bool} (h:Uu n l lo hi=some r):EQ 45 [.ints l,.fn 104 2 (L1 [.fp 1 (L1 [.i lo]),.fp 1 (L1 [.i hi])])] [] (.bool r) [] true:=by
 unfold Uu Yt at h;refine ot Tryz.func45 fun B N=>?_
 revert r;apply gO;exact cf qX [] fun _=>lE AE [4] []
def WE (n:Nat) (l_:List Int) (lo hi:Int):Option Bool:=
 (Uu n l_ lo hi).bind fun y1=>
  some (!y1)
def J1 (n:Nat) (l_:List Int) (lo hi:Int):Option Bool:=WE n l_ lo hi
theorem Sf {n:Nat} {l_:List Int} {lo hi:Int} {r:Bool} (h:J1 n l_ lo hi=some r):EQ 77 [.ints l_,.i lo,.i hi] [] (.bool r) [] true:=by
 unfold J1 WE at h;refine ot Tryz.func77 fun B N=>?_
 revert r;apply gO;exact cn fun y1 A5=>jc (sb [.ints l_,.fn 104 2 (L1 [.ref 0 0,.ref 1 0])] (wV A5) [some (.cells [.i lo]),some (.cells [.i hi])] ⟨Ad.plain (by kernel_rfl),(Ad.fnL (l:=[.ref 0 0,.ref 1 0]) (l0:=[.fp 1 (L1 [.i lo]),.fp 1 (L1 [.i hi])]) ⟨(Ad.refL (l:=[.i lo]) (l0:=[.i lo]) rfl ⟨Ad.plain (by kernel_rfl),trivial⟩),(Ad.refL (l:=[.i hi]) (l0:=[.i hi]) rfl ⟨Ad.plain (by kernel_rfl),trivial⟩),trivial⟩),trivial⟩) (lE AE [6] [])
theorem ll:Aj (BA Tryz.f81 24) [([0,1,2,3,5,6,7,8],4),([],9),([10,11,12,13,14],15),([],16),([17,18,19,20,21,22,23,24,25,26],27)] [28,29] []:=by unfold Aj;kernel_rfl
def Cy:BU:=fun i=>match i with
 | 24=>.ord [([0,1,2,3,5,6,7,8],4),([],9),([10,11,12,13,14],15),([],16),([17,18,19,20,21,22,23,24,25,26],27)] [28,29] []
 | _=>.no
def er (q:AA) (c_:AB):DH:=[some (.cells (AD q)),some (.cells (AG c_)),some (.ints ([c_.set,c_.other]:List Int)),some (.ints ([c_.lo,c_.hi]:List Int))]
inductive KW where
 | l1 (A3:Int) (o2:List Bool)
 | l2
def Qt (n:Nat) (self:KW -> Option Bool) (q:AA) (c_:AB) (A3:Int) (o2:List Bool):Option Bool:=
 bif (decide (A3<(c_.cells.length:Int))) then
  if 0<=A3/\ A3<(c_.cells.length:Int) then
   bif (decide ((c_.cells.getD ((A3).toNat) 0)<0)) then
    some false
   else
    bif (decide ((c_.cells.getD ((A3).toNat) 0)>=q.cells)) then
     some false
    else
     if (0<=(c_.cells.getD ((A3).toNat) 0)/\ (c_.cells.getD ((A3).toNat) 0)<((256:Nat):Int))/\ 0+((c_.cells.getD ((A3).toNat) 0).toNat)<o2.length then
      bif (o2.getD (0+((c_.cells.getD ((A3).toNat) 0).toNat)) false) then
       some false
      else
       bif (decide (c_.kind>=8)) then
        bif ((c_.cells.getD ((A3).toNat) 0) != A3) then
         some false
        else
         if AH (A3+1) then
          self (.l1 (A3+1) (o2.set (0+((c_.cells.getD ((A3).toNat) 0).toNat)) true))
         else none
       else
        if AH (A3+1) then
         self (.l1 (A3+1) (o2.set (0+((c_.cells.getD ((A3).toNat) 0).toNat)) true))
        else none
     else none
  else none
 else
  bif (c_.kind==1) then
   self (.l2)
  else
   bif (c_.kind==2) then
    self (.l2)
   else
    bif (c_.kind==3) then
     self (.l2)
    else
     bif (c_.kind==4) then
      self (.l2)
     else
      bif (c_.kind==5) then
       self (.l2)
      else
       bif (c_.kind==6) then
        bif ((c_.cells.length:Int) != 2) then
         some false
        else
         self (.l2)
       else
        bif (c_.kind==7) then
         bif ((c_.cells.length:Int) != 2) then
          some false
         else
          self (.l2)
        else
         bif (c_.kind==8) then
          bif ((c_.cells.length:Int) != q.cells) then
           some false
          else
           self (.l2)
         else
          bif (c_.kind==9) then
           bif ((c_.cells.length:Int) != q.cells) then
            some false
           else
            self (.l2)
          else
           some false
def UZ (n:Nat) (self:KW -> Option Bool) (q:AA) (c_:AB):Option Bool:=
 if (0<=q.symbols/\ q.symbols<=(IntKind.i64.bits:Int))/\ AH ((IntKind.i64.wrap (1*2 ^ (q.symbols).toNat))-1) then
  (J1 n ([c_.set,c_.other]:List Int) 0 ((IntKind.i64.wrap (1*2 ^ (q.symbols).toNat))-1)).bind fun y1=>
   bif y1 then
    (J1 n ([c_.lo,c_.hi]:List Int) 0 65536).bind fun y2=>
     bif y2 then
      bif (decide ((c_.runs.length:Int)<=8)) then
       (J1 n c_.runs 1 256).bind fun y3=>
        some y3
      else
       some false
     else
      some false
   else
    some false
 else none
def gJ (n:Nat) (self:KW -> Option Bool) (q:AA) (c_:AB):Option Bool:=
 self (.l1 0 (List.replicate 256 false))
def Nn (q:AA) (c_:AB):Nat -> KW -> Option Bool
 | 0,_=>none
 | n+1,.l1 A3 o2=>Qt n (Nn q c_ n) q c_ A3 o2
 | n+1,.l2=>UZ n (Nn q c_ n) q c_
def Ua (n:Nat) (q:AA) (c_:AB):Option Bool:=gJ n (Nn q c_ n) q c_
def vQ (n B:Nat) (N:Yd 0) (q:AA) (c_:AB) (r:Bool):KW -> Prop
 | .l1 A3 o2=>∀ m0:Nat,n<=m0 -> TW B N (FQ Tryz.f81 0 (.bool r) []) (Ai m0 (Ap (AZ Tryz.f81) 0 [])) ⟨AL 95 [(2,.ref 0 0),(3,.ref 1 0),(5,.mp 2 1 0 0),(9,.ints c_.cells),(10,.i (c_.cells.length:Int)),(11,.i A3)],[some (.cells (AD q)),some (.cells (AG c_)),some (.bools o2)]⟩
 | .l2=>TW B N (FQ Tryz.f81 0 (.bool r) []) (H3 (AZ Tryz.f81) 24 []) ⟨AL 95 [(2,.ref 0 0),(3,.ref 1 0)],[some (.cells (AD q)),some (.cells (AG c_))]⟩
theorem vR (B:Nat) (N:Yd 0) (q:AA) (c_:AB):Al (Nn q c_) (vQ · B N q c_):=ia (fun _=>rfl) fun n AF pt r h=>by
 cases pt
 case l1 A3 o2=>
  intro m0 AC;refine rd AC fun m0 AC=>?_
  revert r;apply gO;exact bi 12 (gi (bi 17 (lE (BQ 24 Cy) [4] []) (bi 22 (lE (BQ 24 Cy) [4] []) (gc (gn fun g1=>jg g1 (gn fun g2=>jg g2 (bi 27 (lE (BQ 24 Cy) [4] []) (bi 32 (bi 36 (lE (BQ 24 Cy) [4] []) (jg g1 (jg g2 (gw 41 (lG (BQ 24 Cy) [0,1,2] (AF _ _ · m0 AC)))))) (jg g1 (jg g2 (gw 41 (lG (BQ 24 Cy) [0,1,2] (AF _ _ · m0 AC))))))))))))) (bi 45 (lG (BQ 24 Cy) [0,1] (AF _ _ ·)) (bi 46 (lG (BQ 24 Cy) [0,1] (AF _ _ ·)) (bi 47 (lG (BQ 24 Cy) [0,1] (AF _ _ ·)) (bi 48 (lG (BQ 24 Cy) [0,1] (AF _ _ ·)) (bi 49 (lG (BQ 24 Cy) [0,1] (AF _ _ ·)) (bi 51 (bi 56 (lE (BQ 24 Cy) [4] []) (lG (BQ 24 Cy) [0,1] (AF _ _ ·))) (bi 52 (bi 56 (lE (BQ 24 Cy) [4] []) (lG (BQ 24 Cy) [0,1] (AF _ _ ·))) (bi 58 (bi 65 (lE (BQ 24 Cy) [4] []) (lG (BQ 24 Cy) [0,1] (AF _ _ ·))) (bi 59 (bi 65 (lE (BQ 24 Cy) [4] []) (lG (BQ 24 Cy) [0,1] (AF _ _ ·))) (lE (BQ 24 Cy) [4] []))))))))))
 case l2=>
  revert r;apply gO;exact jg ll (gc (gi (gw 74 (cn fun y1 A5=>jc (sb [.msl 2 1 0 2,.i 0,.i ((IntKind.i64.wrap (1*2 ^ (q.symbols).toNat))-1)] (Sf A5) [some (.cells (AD q)),some (.cells (AG c_)),some (.ints ([c_.set,c_.other]:List Int))] ⟨Ad.ints rfl (Eq.refl 2),Ad.plain (by kernel_rfl),Ad.plain (by kernel_rfl),trivial⟩) (bi 75 (cn fun y2 CQ=>jc (sb [.msl 3 1 0 2,.i 0,.i 65536] (Sf CQ) (er q c_) ⟨Ad.ints rfl (Eq.refl 2),Ad.plain (by kernel_rfl),Ad.plain (by kernel_rfl),trivial⟩) (bi 82 (bi 88 (cf Sf (er q c_) fun _=>lE Cy [4] []) (lE Cy [4] [])) (lE Cy [4] []))) (lE Cy [4] []))))))
theorem vO {n:Nat} {q:AA} {c_:AB} {r:Bool} (h:Ua n q c_=some r):EQ 81 [.agg 5 (L1 (AD q)),.agg 9 (L1 (AG c_))] [] (.bool r) [] true:=by
 refine ot Tryz.func81 fun B N=>?_
 revert r;apply gO;exact lN (BQ 24 Cy) [0,1,2] ((vR B N q c_ n) _ _ · n Nat.le.refl)
def Vc (n:Nat) (c:AB) (q:AA):Option Bool:=
 (Ua n q c).bind fun y1=>
  some (!y1)
def Rn (n:Nat) (c:AB) (q:AA):Option Bool:=Vc n c q
theorem jh {n:Nat} {c:AB} {q:AA} {r:Bool} (h:Rn n c q=some r):EQ 80 [.agg 9 (L1 (AG c)),.fp 5 (L1 (AD q))] [] (.bool r) [] true:=by
 unfold Rn Vc at h;refine ot Tryz.func80 fun B N=>?_
 revert r;apply gO;exact cf vO [some (.cells (AG c))] fun _=>lE AE [3] []
inductive Te where
 | l1 (x8:Int)
def Td (n:Nat) (self:Te -> Option Int) (l:List AB) (q:AA) (x8:Int):Option Int:=
 bif (decide (x8<(l.length:Int))) then
  if 0<=x8/\ x8<(l.length:Int) then
   (Rn n (l.getD ((x8).toNat) default) q).bind fun y1=>
    bif y1 then
     some x8
    else
     if AH (x8+1) then
      self (.l1 (x8+1))
     else none
  else none
 else
  some (-1)
def d8 (n:Nat) (self:Te -> Option Int) (l:List AB) (q:AA):Option Int:=
 self (.l1 0)
def KB (l:List AB) (q:AA):Nat -> Te -> Option Int
 | 0,_=>none
 | n+1,.l1 x8=>Td n (KB l q n) l q x8
def Tf (n:Nat) (l:List AB) (q:AA):Option Int:=d8 n (KB l q n) l q
def qV (n B:Nat) (N:Yd 0) (l:List AB) (q:AA) (r:Int):Te -> Prop
 | .l1 x8=>∀ m0:Nat,n<=m0 -> TW B N (FQ Tryz.f106 0 (.i r) []) (Ai m0 (Ap (AZ Tryz.f106) 0 [])) ⟨AL 19 [(0,.sl 9 l.length (Ak AG l)),(1,.fn 80 1 (L1 [.fp 5 (L1 (AD q))])),(7,.i (l.length:Int)),(8,.i x8)],[]⟩
theorem qW (B:Nat) (N:Yd 0) (l:List AB) (q:AA):Al (KB l q) (qV · B N l q):=ia (fun _=>rfl) fun n AF pt r h=>by
 cases pt
 case l1 x8=>
  intro m0 AC;refine rd AC fun m0 AC=>?_
  revert r;apply gO;exact bi 9 (gi (cf jh [] fun _=>bi 16 (lE AE [4] []) (gw 18 (lG AE [] (AF _ _ · m0 AC))))) (lE AE [4] [])
theorem qU {n:Nat} {l:List AB} {q:AA} {r:Int} (h:Tf n l q=some r):EQ 106 [.sl 9 l.length (Ak AG l),.fn 80 1 (L1 [.fp 5 (L1 (AD q))])] [] (.i r) [] true:=by
 refine ot Tryz.func106 fun B N=>?_
 revert r;apply gO;exact lN AE [] ((qW B N l q n) _ _ · n Nat.le.refl)
def Ys (n:Nat) (l:List AB) (q:AA):Option Bool:=
 (Tf n l q).bind fun y1=>
  some (decide (y1>=0))
def Us (n:Nat) (l:List AB) (q:AA):Option Bool:=Ys n l q
theorem wU {n:Nat} {l:List AB} {q:AA} {r:Bool} (h:Us n l q=some r):EQ 79 [.sl 9 l.length (Ak AG l),.fn 80 1 (L1 [.fp 5 (L1 (AD q))])] [] (.bool r) [] true:=by
 unfold Us Ys at h;refine ot Tryz.func79 fun B N=>?_
 revert r;apply gO;exact cf qU [] fun _=>lE AE [4] []
def Zw (n:Nat) (q:AA):Option Int:=
 bif (decide (q.cells<1)) then
  some 191
 else
  bif (decide (q.cells>256)) then
   some 191
  else
   bif (decide (q.symbols<1)) then
    some 191
   else
    bif (decide (q.symbols>16)) then
     some 191
    else
     bif ((q.values.length:Int) != q.symbols) then
      some 191
     else
      (J1 n q.values 0 99).bind fun y1=>
       bif (!y1) then
        some 191
       else
        bif ((q.nbrs.length:Int) != q.cells) then
         some 191
        else
         (Qo n q.nbrs).bind fun y2=>
          bif (y2 != 0) then
           some 191
          else
           bif (decide ((q.cons.length:Int)>4096)) then
            some 191
           else
            (Us n q.cons q).bind fun y3=>
             bif y3 then
              some 191
             else
              some 0
def valid (n:Nat) (q:AA):Option Int:=Zw n q
theorem Zv {n:Nat} {q:AA} {r:Int} (h:valid n q=some r):EQ 56 [.agg 5 (L1 (AD q))] [] (.i r) [] true:=by
 refine ot Tryz.func56 fun B N=>?_
 revert r;apply gO;exact bi 5 (lE AE [2] []) (bi 9 (lE AE [2] []) (bi 14 (lE AE [2] []) (bi 19 (lE AE [2] []) (bi 27 (lE AE [2] []) (cf Sf [some (.cells (AD q))] fun _=>bi 33 (lE AE [2] []) (bi 40 (lE AE [2] []) (cf f8 [some (.cells (AD q))] fun _=>bi 45 (lE AE [2] []) (bi 51 (lE AE [2] []) (cn fun y3 QD=>jc (sb [.sl 9 q.cons.length (Ak AG q.cons),.fn 80 1 (L1 [.ref 0 0])] (wU QD) [some (.cells (AD q))] ⟨Ad.plain (by kernel_rfl),(Ad.fnL (l:=[.ref 0 0]) (l0:=[.fp 5 (L1 (AD q))]) ⟨(Ad.refL (l:=(AD q)) (l0:=(AD q)) rfl ⟨Ad.plain (by kernel_rfl),Ad.plain (by kernel_rfl),Ad.plain (by kernel_rfl),Ad.plain (by kernel_rfl),Ad.plain (by kernel_rfl),trivial⟩),trivial⟩),trivial⟩) (bi 56 (lE AE [2] []) (lE AE [2] [])))))))))))
def Ws (n:Nat) (q:AA) (i:Int):Option (Int×Int):=
 (valid n q).bind fun y1=>
  bif (y1 != 0) then
   some (0,y1)
  else
   bif (decide (i<0)) then
    some (0,260)
   else
    bif (decide (i>=(q.cons.length:Int))) then
     some (0,260)
    else
     if (0<=i/\ i<(q.cons.length:Int))/\ ((0:Int)<=((q.cons.getD ((i).toNat) default).kind)/\ ((q.cons.getD ((i).toNat) default).kind)<((10:Nat):Int)) then
      some (([0,1,1,2,2,3,1,1,4,4]:List Int).getD ((q.cons.getD ((i).toNat) default).kind).toNat 0,0)
     else none
def Lf (n:Nat) (q:AA) (i:Int):Option (Int×Int):=Ws n q i
theorem Wr {n:Nat} {q:AA} {i:Int} {r:Int×Int} (h:Lf n q i=some r):EQ 32 [.agg 5 (L1 (AD q)),.i i] [] (.tup 2 (L1 [.i r.1,.i r.2])) [] true:=by
 unfold Lf Ws at h;refine ot Tryz.func32 fun B N=>?_
 revert r;apply gO;exact cf Zv [some (.cells (AD q))] fun _=>bi 10 (lE AE [4,5] []) (bi 13 (lE AE [4,5] []) (bi 19 (lE AE [4,5] []) (gc (gi (gn fun g1=>jg g1 (jo 28 (AN.ixI [0,1,1,2,2,3,1,1,4,4] rfl g1) (lE AE [4,5] [])))))))
inductive SS where
 | l1 (x7:Int)
def PG (n:Nat) (self:SS -> Option Bool) (c_:AB) (cells symbols:Int) (x7:Int):Option Bool:=
 bif (decide (x7<(c_.cells.length:Int))) then
  bif (c_.kind==8) then
   if 0<=x7/\ x7<(c_.cells.length:Int) then
    bif ((c_.cells.getD ((x7).toNat) 0) != x7) then
     some false
    else
     if AH (x7+1) then
      self (.l1 (x7+1))
     else none
   else none
  else
   bif (c_.kind==9) then
    if 0<=x7/\ x7<(c_.cells.length:Int) then
     bif ((c_.cells.getD ((x7).toNat) 0) != x7) then
      some false
     else
      if AH (x7+1) then
       self (.l1 (x7+1))
      else none
    else none
   else
    if AH (x7+1) then
     self (.l1 (x7+1))
    else none
 else
  if (0<=symbols/\ symbols<=(IntKind.i64.bits:Int))/\ AH ((IntKind.i64.wrap (1*2 ^ (symbols).toNat))-1) then
   (Kh n ([c_.set,c_.other]:List Int) 0 ((IntKind.i64.wrap (1*2 ^ (symbols).toNat))-1)).bind fun y1=>
    bif y1 then
     (Kh n ([c_.lo,c_.hi]:List Int) 0 65536).bind fun y2=>
      bif y2 then
       bif (decide ((c_.runs.length:Int)<=8)) then
        (Kh n c_.runs 1 256).bind fun y3=>
         some y3
       else
        some false
      else
       some false
    else
     some false
  else none
def bu (n:Nat) (self:SS -> Option Bool) (c_:AB) (cells symbols:Int):Option Bool:=
 bif (decide (c_.kind<1)) then
  some false
 else
  bif (decide (c_.kind>9)) then
   some false
  else
   bif (decide ((c_.cells.length:Int)>cells)) then
    some false
   else
    if AH (cells-1) then
     (Kh n c_.cells 0 (cells-1)).bind fun y1=>
      bif (!y1) then
       some false
      else
       (Un n c_.cells).bind fun y2=>
        bif (!y2) then
         some false
        else
         bif (c_.kind==6) then
          bif ((c_.cells.length:Int) != 2) then
           some false
          else
           bif (c_.kind==8) then
            bif ((c_.cells.length:Int) != cells) then
             some false
            else
             self (.l1 0)
           else
            bif (c_.kind==9) then
             bif ((c_.cells.length:Int) != cells) then
              some false
             else
              self (.l1 0)
            else
             self (.l1 0)
         else
          bif (c_.kind==7) then
           bif ((c_.cells.length:Int) != 2) then
            some false
           else
            bif (c_.kind==8) then
             bif ((c_.cells.length:Int) != cells) then
              some false
             else
              self (.l1 0)
            else
             bif (c_.kind==9) then
              bif ((c_.cells.length:Int) != cells) then
               some false
              else
               self (.l1 0)
             else
              self (.l1 0)
          else
           bif (c_.kind==8) then
            bif ((c_.cells.length:Int) != cells) then
             some false
            else
             self (.l1 0)
           else
            bif (c_.kind==9) then
             bif ((c_.cells.length:Int) != cells) then
              some false
             else
              self (.l1 0)
            else
             self (.l1 0)
    else none
def J0 (c_:AB) (cells symbols:Int):Nat -> SS -> Option Bool
 | 0,_=>none
 | n+1,.l1 x7=>PG n (J0 c_ cells symbols n) c_ cells symbols x7
def SV (n:Nat) (c_:AB) (cells symbols:Int):Option Bool:=bu n (J0 c_ cells symbols n) c_ cells symbols
def m8 (n B:Nat) (N:Yd 0) (c_:AB) (cells symbols:Int) (r:Bool):SS -> Prop
 | .l1 x7=>∀ m0:Nat,n<=m0 -> TW B N (FQ Tryz.f76 0 (.bool r) []) (Ai m0 (Ap (AZ Tryz.f76) 0 [])) ⟨AL 120 [(2,.i symbols),(3,.ref 0 0),(7,.i x7)],[some (.cells (AG c_))]⟩
theorem m9 (B:Nat) (N:Yd 0) (c_:AB) (cells symbols:Int):Al (J0 c_ cells symbols) (m8 · B N c_ cells symbols):=ia (fun _=>rfl) fun n AF pt r h=>by
 cases pt
 case l1 x7=>
  intro m0 AC;refine rd AC fun m0 AC=>?_
  revert r;apply gO;exact bi 71 (bi 76 (gi (bi 89 (lE AE [6] []) (gw 73 (lG AE [0] (AF _ _ · m0 AC))))) (bi 80 (gi (bi 89 (lE AE [6] []) (gw 73 (lG AE [0] (AF _ _ · m0 AC))))) (gw 73 (lG AE [0] (AF _ _ · m0 AC))))) (gc (gi (gw 93 (cn fun y1 A5=>jc (sb [.msl 1 1 0 2,.i 0,.i ((IntKind.i64.wrap (1*2 ^ (symbols).toNat))-1)] (RP A5) [some (.cells (AG c_)),some (.ints ([c_.set,c_.other]:List Int))] ⟨Ad.ints rfl (Eq.refl 2),Ad.plain (by kernel_rfl),Ad.plain (by kernel_rfl),trivial⟩) (bi 100 (cn fun y2 CQ=>jc (sb [.msl 2 1 0 2,.i 0,.i 65536] (RP CQ) [some (.cells (AG c_)),some (.ints ([c_.set,c_.other]:List Int)),some (.ints ([c_.lo,c_.hi]:List Int))] ⟨Ad.ints rfl (Eq.refl 2),Ad.plain (by kernel_rfl),Ad.plain (by kernel_rfl),trivial⟩) (bi 107 (bi 113 (cf RP [some (.cells (AG c_)),some (.ints ([c_.set,c_.other]:List Int)),some (.ints ([c_.lo,c_.hi]:List Int))] fun _=>lE AE [6] []) (lE AE [6] [])) (lE AE [6] []))) (lE AE [6] []))))))
theorem m4 {n:Nat} {c_:AB} {cells symbols:Int} {r:Bool} (h:SV n c_ cells symbols=some r):EQ 76 [.agg 9 (L1 (AG c_)),.i cells,.i symbols] [] (.bool r) [] true:=by
 have AF:=fun B N=>(m9 B N c_ cells symbols n)
 refine ot Tryz.func76 fun B N=>?_
 revert r;apply gO;exact bi 11 (lE AE [6] []) (bi 15 (lE AE [6] []) (bi 22 (lE AE [6] []) (gw 28 (cf RP [some (.cells (AG c_))] fun _=>bi 30 (lE AE [6] []) (cf vw [some (.cells (AG c_))] fun _=>bi 36 (lE AE [6] []) (bi 40 (bi 50 (lE AE [6] []) (bi 54 (bi 65 (lE AE [6] []) (lN AE [0] ((AF B N) _ _ · n Nat.le.refl))) (bi 58 (bi 65 (lE AE [6] []) (lN AE [0] ((AF B N) _ _ · n Nat.le.refl))) (lN AE [0] ((AF B N) _ _ · n Nat.le.refl))))) (bi 44 (bi 50 (lE AE [6] []) (bi 54 (bi 65 (lE AE [6] []) (lN AE [0] ((AF B N) _ _ · n Nat.le.refl))) (bi 58 (bi 65 (lE AE [6] []) (lN AE [0] ((AF B N) _ _ · n Nat.le.refl))) (lN AE [0] ((AF B N) _ _ · n Nat.le.refl))))) (bi 54 (bi 65 (lE AE [6] []) (lN AE [0] ((AF B N) _ _ · n Nat.le.refl))) (bi 58 (bi 65 (lE AE [6] []) (lN AE [0] ((AF B N) _ _ · n Nat.le.refl))) (lN AE [0] ((AF B N) _ _ · n Nat.le.refl)))))))))))
theorem kr:Aj (BA Tryz.f54 8) [([0,1,2,3,4,5,6,7,8],9)] [10] []:=by unfold Aj;kernel_rfl
def GN:BU:=fun i=>match i with
 | 8=>.ord [([0,1,2,3,4,5,6,7,8],9)] [10] []
 | _=>.no
inductive SE where
 | l1 (x3:Int)
def SD (n:Nat) (self:SE -> Option Int) (q:AA) (x3:Int):Option Int:=
 bif (decide (x3<(q.cons.length:Int))) then
  if 0<=x3/\ x3<(q.cons.length:Int) then
   (SV n (q.cons.getD ((x3).toNat) default) q.cells q.symbols).bind fun y1=>
    bif (!y1) then
     some 191
    else
     if AH (x3+1) then
      self (.l1 (x3+1))
     else none
  else none
 else
  some 0
def bO (n:Nat) (self:SE -> Option Int) (q:AA):Option Int:=
 bif (decide (q.cells<1)) then
  some 191
 else
  bif (decide (q.cells>256)) then
   some 191
  else
   bif (decide (q.symbols<1)) then
    some 191
   else
    bif (decide (q.symbols>16)) then
     some 191
    else
     bif ((q.values.length:Int) != q.symbols) then
      some 191
     else
      (Kh n q.values 0 99).bind fun y1=>
       bif (!y1) then
        some 191
       else
        bif ((q.nbrs.length:Int) != q.cells) then
         some 191
        else
         (Sb n q.nbrs).bind fun y2=>
          bif (y2 != 0) then
           some 191
          else
           bif (decide ((q.cons.length:Int)>4096)) then
            some 191
           else
            self (.l1 0)
def Jr (q:AA):Nat -> SE -> Option Int
 | 0,_=>none
 | n+1,.l1 x3=>SD n (Jr q n) q x3
def Oz (n:Nat) (q:AA):Option Int:=bO n (Jr q n) q
def mA (n B:Nat) (N:Yd 0) (q:AA) (r:Int):SE -> Prop
 | .l1 x3=>∀ m0:Nat,n<=m0 -> TW B N (FQ Tryz.f54 0 (.i r) []) (Ai m0 (Ap (AZ Tryz.f54) 0 [])) ⟨AL 72 [(1,.ref 0 0),(3,.i x3)],[some (.cells (AD q))]⟩
theorem mB (B:Nat) (N:Yd 0) (q:AA):Al (Jr q) (mA · B N q):=ia (fun _=>rfl) fun n AF pt r h=>by
 cases pt
 case l1 x3=>
  intro m0 AC;refine rd AC fun m0 AC=>?_
  revert r;apply gO;exact bi 58 (jg kr (gi (cf m4 [some (.cells (AD q))] fun _=>bi 71 (lE GN [2] []) (gw 60 (lG GN [0] (AF _ _ · m0 AC)))))) (lE GN [2] [])
theorem bN {n:Nat} {q:AA} {r:Int} (h:Oz n q=some r):EQ 54 [.agg 5 (L1 (AD q))] [] (.i r) [] true:=by
 refine ot Tryz.func54 fun B N=>?_
 revert r;apply gO;exact bi 6 (lE GN [2] []) (bi 10 (lE GN [2] []) (bi 15 (lE GN [2] []) (bi 20 (lE GN [2] []) (bi 28 (lE GN [2] []) (cf RP [some (.cells (AD q))] fun _=>bi 34 (lE GN [2] []) (bi 41 (lE GN [2] []) (cf nT [some (.cells (AD q))] fun _=>bi 46 (lE GN [2] []) (bi 52 (lE GN [2] []) (lN GN [0] ((mB B N q n) _ _ · n Nat.le.refl))))))))))
def Yg (n:Nat) (q:AA) (pos:List Int):Option Bool:=
 (Ug n q).bind fun y1=>
  bif y1 then
   some (decide ((pos.length:Int)<=20))
  else
   some false
def Qv (n:Nat) (q:AA) (pos:List Int):Option Bool:=Yg n q pos
theorem vY {n:Nat} {q:AA} {pos:List Int} {r:Bool} (h:Qv n q pos=some r):EQ 8 [.agg 5 (L1 (AD q)),.ints pos] [] (.bool r) [] true:=by
 unfold Qv Yg at h;refine ot Tryz.func8 fun B N=>?_
 revert r;apply gO;exact cf va [some (.cells (AD q))] fun _=>bi 6 (lE AE [4] []) (lE AE [4] [])
end Go.Proofs.YtekkngkphejfcaaGreatDoor
namespace Go.Proofs.YtekkngkphejfcaaGreatDoor
abbrev yA:=@decide_eq_false
abbrev yB:=@cond_false
abbrev yF:=@cond_true
abbrev yH:=@Int.toNat_natCast
abbrev yZ:=@List.getElem_mem
abbrev zC:=@Bool.not_false
abbrev zF:=@Int.natCast_nonneg
abbrev zH:=@beq_eq_false_iff_ne
abbrev zS:=@decide_true
abbrev zj:=@Bool.or_false
abbrev zt:=@and_self
abbrev zw:=@decide_eq_false_iff_not
abbrev zAG:=@Bool.eq_false_iff
abbrev zAH:=@List.range_eq_range'
abbrev zAI:=@List.exists_of_findSome?_eq_some
abbrev zAM:=@Int.eq_ofNat_of_zero_le
abbrev zAZ:=@List.findSome?_eq_none_iff
abbrev zAk:=@List.mem_take_iff_getElem
abbrev zAn:=@List.length_erase_of_mem
abbrev zA2:=@List.range'_succ
end Go.Proofs.YtekkngkphejfcaaGreatDoor
namespace Go.Proofs.YtekkngkphejfcaaGreatDoor
def Hg (lo hi:Int) (n:Int):Bool:=decide (lo<=n)&&decide (n<=hi)
def CH (xs:List Int) (lo hi:Int):Bool:=xs.all (Hg lo hi)
def Ek (g:List (List Int)) (i:Nat) (l:List Int) (k:Nat):Bool:=
 let n:=l.getD k 0
 decide (0<=n)&&decide (n<g.length)&&(n != i)&&(!decide (0<k)||decide (l.getD (k-1) 0<n))&&(g.getD n.toNat []).contains (i:Int)
def Gk (g:List (List Int)) (i:Nat) (l:List Int):Bool:=(List.range l.length).all (Ek g i l)
def Hp (g:List (List Int)):Bool:=decide (g.length<=256)&&(List.range g.length).all fun i=>Gk g i (g.getD i [])
def ME (n kind:Int) (cells:List Int) (i:Nat):Bool:=
 let x:=cells.getD i 0
 decide (0<=x)&&decide (x<n)&&!(cells.take i).contains x&&(!decide (8<=kind)||x==(i:Int))
def U3 (n kind:Int) (cells:List Int):Bool:=(List.range cells.length).all (ME n kind cells)
def E3 (n kind:Int) (len:Nat):Bool:=
 (decide (1<=kind)&&decide (kind<=5))||((kind==6||kind==7)&&len==2)||((kind==8||kind==9)&&(len:Int)==n)
def C5 (q:AA) (c:AB):Bool:=
 U3 q.cells c.kind c.cells&&E3 q.cells c.kind c.cells.length&&
 CH [c.set,c.other] 0 (2 ^ q.symbols.toNat-1)&&CH [c.lo,c.hi] 0 65536&&decide (c.runs.length<=8)&&CH c.runs 1 256
def LW (l:List Int):Bool:=(List.range l.length).all fun i=>!(l.take i).contains (l.getD i 0)
def SU (c:AB) (n sy:Int):Bool:=
 (decide (1<=c.kind)&&decide (c.kind<=9))&&decide ((c.cells.length:Int)<=n)&&CH c.cells 0 (n-1)&&LW c.cells&&
 (!(c.kind==6||c.kind==7)||c.cells.length==2)&&(!(c.kind==8||c.kind==9)||((c.cells.length:Int)==n))&&
 (!(c.kind==8||c.kind==9)||(List.range c.cells.length).all fun i=>c.cells.getD i 0==(i:Int))&&
 CH [c.set,c.other] 0 (2 ^ sy.toNat-1)&&CH [c.lo,c.hi] 0 65536&&decide (c.runs.length<=8)&&CH c.runs 1 256
theorem M4: ∀ (n:Nat) (l:List Int),l.Nodup -> (∀ x∈l,0<=x/\ x<(n:Int)) -> l.length<=n
 | 0,l,_,h=>by
  cases l with
  | nil=>simp
  | cons a l=>have:=h a (by simp);omega
 | n+1,l,hd,h=>by
  have h1:(l.erase (n:Int)).length<=n:=M4 n _ (hd.erase _) (fun x hx=>by
   have:=hd.mem_erase_iff.1 hx;have h2:=h x this.2;have h3:=this.1;omega)
  by_cases hm:(n:Int)∈l
  ·have:=zAn hm;omega
  ·rw [List.erase_of_not_mem hm] at h1;omega
theorem dB {l:List Int}:LW l=true↔l.Nodup:=by
 unfold LW List.Nodup;rw [yL,List.pairwise_iff_getElem];constructor
 ·intro h i j hi hj QX e;have:=h j (by simpa using hj);simp only [u8,xz hj,z6,yv] at this;rw [zAG,ne_eq,zr,zAk] at this;exact this ⟨i,by omega,e⟩
 ·intro h i hi;have A7:i<l.length:=by simpa using hi
  simp only [u8,xz A7,z6,yv];rw [zAG,ne_eq,zr,zAk];rintro ⟨j,hj,e⟩;exact h j i (by omega) A7 (by omega) e
theorem VT {l:List Int} {lo hi:Int}:CH l lo hi=true↔∀ x∈l,lo<=x/\ x<=hi:=by
 unfold CH;simp [Hg]
theorem Y1 {n kind:Int} {cells:List Int}:U3 n kind cells=true↔(∀ x∈cells,0<=x/\ x<n)/\ cells.Nodup/\ (8<=kind -> ∀ j,j<cells.length -> cells.getD j 0=(j:Int)):=by
 rw [←dB];unfold U3 LW ME;simp only [yL,yP,yG,yg,ya,yv,yk,zw];constructor
 ·intro h;refine ⟨fun x hx=>?_,fun j hj=>(h j hj).1.2,fun h8 j hj=>?_⟩
  ·obtain ⟨j,hj,rfl⟩:=zX hx;have:=(h j hj).1.1;simpa [hj] using this
  ·rcases (h j hj).2 with h' | h'
   ·exact absurd h8 h'
   ·exact h'
 ·rintro ⟨h1,h2,h3⟩ j hj;have hx:=h1 _ (yZ hj);refine ⟨⟨by simpa [hj] using hx,h2 j hj⟩,?_⟩
  by_cases h8:8<=kind
  ·exact .inr (h3 h8 j hj)
  ·exact .inl h8
theorem m7 (q:AA) (c:AB) (h1:1<=q.cells):SU c q.cells q.symbols=C5 q c:=by
 rw [zR];unfold SU C5;simp only [yG,Y1,dB,VT (l:=c.cells),ya,yv,Bool.or_eq_false_iff,yk,zH,yg,yL,yP,E3];constructor
 ·rintro ⟨⟨⟨⟨⟨⟨⟨⟨⟨⟨⟨k1,k2⟩,k3⟩,k4⟩,k5⟩,k6⟩,k7⟩,k8⟩,k9⟩,W5⟩,W4⟩,W0⟩;refine ⟨⟨⟨⟨⟨⟨fun x hx=>⟨(k4 x hx).1,by have:=(k4 x hx).2;omega⟩,k5,fun h8=>?_⟩,?_⟩,k9⟩,W5⟩,W4⟩,W0⟩
  ·rcases k8 with h | h
   ·omega
   ·exact h
  ·rcases k6 with h6 | h6 <;> rcases k7 with h7 | h7
   ·left;left;omega
   ·by_cases h:c.kind=8∨c.kind=9
    ·right;exact ⟨h,h7⟩
    ·left;left;omega
   ·by_cases h:c.kind=6∨c.kind=7
    ·left;right;exact ⟨h,h6⟩
    ·left;left;omega
   ·by_cases h:c.kind=6∨c.kind=7
    ·left;right;exact ⟨h,h6⟩
    ·by_cases h2:c.kind=8∨c.kind=9
     ·right;exact ⟨h2,h7⟩
     ·left;left;omega
 ·rintro ⟨⟨⟨⟨⟨⟨k1,k2,k3⟩,k4⟩,k9⟩,W5⟩,W4⟩,W0⟩
  have Ae:(c.cells.length:Int)<=q.cells:=by
   have:=M4 q.cells.toNat c.cells k2 (fun x hx=>by have:=k1 x hx;omega);omega
  refine ⟨⟨⟨⟨⟨⟨⟨⟨⟨⟨⟨by omega,by omega⟩,Ae⟩,fun x hx=>⟨(k1 x hx).1,by have:=(k1 x hx).2;omega⟩⟩,k2⟩,?_⟩,?_⟩,?_⟩,k9⟩,W5⟩,W4⟩,W0⟩
  ·rcases k4 with (h | h) | h
   ·left;omega
   ·right;exact h.2
   ·left;omega
  ·rcases k4 with (h | h) | h
   ·left;omega
   ·left;omega
   ·right;exact h.2
  ·by_cases h8:8<=c.kind
   ·right;exact k3 h8
   ·left;omega
def CY (q:AA):Bool:=
 decide (1<=q.cells)&&decide (q.cells<=256)&&decide (1<=q.symbols)&&decide (q.symbols<=16)&&((q.values.length:Int)==q.symbols)&&CH q.values 0 99&&
 ((q.nbrs.length:Int)==q.cells)&&Hp q.nbrs&&decide (q.cons.length<=4096)&&q.cons.all (C5 q)
def Fj (kind:Int):Int:=if kind=3∨kind=4 then 2 else if kind=5 then 3 else if kind=8∨kind=9 then 4 else 1
def Gv (q:AA) (i:Int):Int×Int:=
 if CY q=false then (0,191) else if 0<=i/\ i<q.cons.length then (Fj ((q.cons.getD i.toNat default).kind),0) else (0,260)
theorem DX {q:AA} (h:CY q=true):(1<=q.cells/\ q.cells<=256)/\ (1<=q.symbols/\ q.symbols<=16)/\ ((q.values.length:Int)=q.symbols/\ CH q.values 0 99=true)/\
 ((q.nbrs.length:Int)=q.cells/\ Hp q.nbrs=true)/\ q.cons.length<=4096/\ ∀ c∈q.cons,C5 q c=true:=by
 unfold CY at h;simp only [yG,yg,yk,yL] at h;obtain ⟨⟨⟨⟨⟨⟨⟨⟨⟨h1,h2⟩,h3⟩,h4⟩,h5⟩,h6⟩,h7⟩,h8⟩,h9⟩,L6⟩:=h;exact ⟨⟨h1,h2⟩,⟨h3,h4⟩,⟨h5,h6⟩,⟨h7,h8⟩,h9,L6⟩
theorem dp {q:AA} {c:AB} (h:C5 q c=true):E3 q.cells c.kind c.cells.length=true:=by
 unfold C5 at h;simp only [yG] at h;exact h.1.1.1.1.2
theorem P0 {n kind:Int} {len:Nat} (h:E3 n kind len=true):1<=kind/\ kind<=9:=by
 unfold E3 at h;simp at h;omega
theorem ND {k:Int} (h:1<=k/\ k<=9):k=1∨k=2∨k=3∨k=4∨k=5∨k=6∨k=7∨k=8∨k=9:=by omega
end Go.Proofs.YtekkngkphejfcaaGreatDoor
namespace Go.Proofs.YtekkngkphejfcaaGreatDoor
open Go.RowKit
theorem bG {R:Type} (m:Nat -> Int -> Option R) (len N0:Nat) (B:Nat -> Option R) (h0: ∀ (n i:Nat),N0<=n -> i<len -> m (n+1) (i:Int)=(B i).or (m n ((i:Int)+1))):
 ∀ (k i n:Nat),i+k=len -> N0<=n -> m (n+k) (i:Int)=((List.range' i k).findSome? B).or (m n (len:Int))
 | 0,i,n,h,hn=>by
  have:i=len:=by omega
  subst this;rfl
 | k+1,i,n,h,hn=>by
  show m (n+k+1) (i:Int)=_
  rw [h0 (n+k) i (by omega) (by omega),zA2,List.findSome?_cons];cases B i with
  | some r=>rfl
  | none=>
   have:=bG m len N0 B h0 k (i+1) n (by omega) hn;rw [←this];simp
theorem HP {R:Type} (m:Nat -> Int -> Option R) (len N0:Nat) (B:Nat -> Option R) (h0: ∀ (n i:Nat),N0<=n -> i<len -> m (n+1) (i:Int)=(B i).or (m n ((i:Int)+1))) {n:Nat} (hn:N0+len<=n):
 m n 0=((List.range len).findSome? B).or (m (n-len) (len:Int)):=by
 have:=bG m len N0 B h0 len 0 (n-len) (by omega) (by omega);rw [Nat.sub_add_cancel (by omega)] at this;rw [zAH];exact this
theorem KX {R:Type} {l:List Nat} {p:Nat -> Bool} {r:R}:(l.findSome? fun i=>if p i then none else some r)=if l.all p then none else some r:=by
 induction l with
 | nil=>rfl
 | cons a l ih=>
  rw [List.findSome?_cons,zAU];cases hp:p a
  ·simp
  ·simp [ih]
theorem PJ {α:Type} {l:List α} {d:α} {p:α -> Bool}:((List.range l.length).all fun i=>p (l.getD i d))=l.all p:=by
 rw [zR,yL,yL];constructor
 ·intro h x hx;obtain ⟨i,hi,rfl⟩:=zX hx;have:=h i (by simpa using hi);simpa [hi] using this
 ·intro h i hi;have A7:i<l.length:=by simpa using hi
  simp [A7,h _ (yZ A7)]
theorem r64 {i len:Nat} (h:i<len) (hl:len<=LB):AH ((i:Int)+1):=by rw [At];unfold LB at hl;omega
theorem RQ {l:List Int} {lo up:Int} {n:Nat} (hl:l.length<=LB) (hn:l.length<n):Kh n l lo up=some (CH l lo up):=by
 unfold Kh iQ;have S:=HP (fun n i=>OB l lo up n (.l1 i)) l.length 0 (fun i=>if Hg lo up (l.getD i 0) then none else some false) (fun n i _ hi=>?_) (n:=n) (by omega)
 ·refine S.trans ?_;rw [KX,PJ (p:=Hg lo up)];unfold CH;cases l.all (Hg lo up) with
  | false=>rfl
  | true=>
   obtain ⟨m,hm⟩: ∃ m,n-l.length=m+1:=⟨n-l.length-1,by omega⟩;rw [hm];simp [OB,Y5]
 ·have h1:(i:Int)<(l.length:Int):=by omega
  have h2:=r64 hi hl;simp only [OB,Y5,h1,h2,zS,yF,zF,zt,zE,yH,Hg];obtain ⟨x,hg⟩: ∃ y,l.getD i 0=y:=⟨_,rfl⟩;simp only [hg]
  by_cases a:x<lo
  ·have: ¬ lo<=x:=by omega
   simp [a,this]
  ·have a':lo<=x:=by omega
   by_cases b:up<x
   ·have: ¬ x<=up:=by omega
    simp [a,b,a',this]
   ·have b':x<=up:=by omega
    simp [a,b,a',b']
theorem qY {l:List Int} {lo up:Int} {n:Nat} (hl:l.length<=LB) (hn:l.length<n): ∃ r:Int,Ti n l lo up=some r/\ (0<=r↔CH l lo up=false):=by
 unfold Ti d9;have S:=HP (fun n i=>Lj l lo up n (.l1 i)) l.length 0 (fun i=>if Hg lo up (l.getD i 0) then none else some (i:Int)) (fun n i _ hi=>?_) (n:=n) (by omega)
 ·have S:=S;rw [show Lj l lo up n (.l1 0)=_ from S];cases hf:(List.range l.length).findSome? (fun i=>if Hg lo up (l.getD i 0) then none else some (i:Int)) with
  | some r=>
   refine ⟨r,rfl,?_⟩;obtain ⟨i,hi,hr⟩:=zAI hf;have A7:i<l.length:=by simpa using hi
   split at hr
   ·cases hr
   ·rename_i hx;cases hr;refine ⟨fun _=>?_,fun _=>by omega⟩;unfold CH;rw [List.all_eq_false];exact ⟨l[i],yZ A7,by simpa [A7] using hx⟩
  | none=>
   obtain ⟨m,hm⟩: ∃ m,n-l.length=m+1:=⟨n-l.length-1,by omega⟩;refine ⟨-1,by rw [hm];simp [Lj,XG],?_⟩;rw [zAZ] at hf
   have:CH l lo up=true:=by
    unfold CH;rw [←PJ (p:=Hg lo up) (d:=(0:Int)),yL];intro i hi;have:=hf i hi;cases hc:Hg lo up (l.getD i 0) with
    | true=>rfl
    | false=>rw [hc] at this;simp at this
   simp [this]
 ·have h1:(i:Int)<(l.length:Int):=by omega
  have h2:=r64 hi hl;simp only [Lj,XG,VU,Zr,h1,h2,zS,yF,zF,zt,zE,yH,Hg];obtain ⟨x,hg⟩: ∃ y,l.getD i 0=y:=⟨_,rfl⟩;simp only [hg]
  by_cases a:x<lo
  ·have: ¬ lo<=x:=by omega
   simp [a,this]
  ·have a':lo<=x:=by omega
   by_cases b:up<x
   ·have: ¬ x<=up:=by omega
    simp [a,b,a',this]
   ·have b':x<=up:=by omega
    simp [a,b,a',b']
theorem Sh {l:List Int} {lo up:Int} {n:Nat} (hl:l.length<=LB) (hn:l.length<n):J1 n l lo up=some (CH l lo up):=by
 obtain ⟨r,h1,h2⟩:=qY (lo:=lo) (up:=up) hl hn;unfold J1 WE Uu Yt;rw [h1];cases hw:CH l lo up with
 | true=>
  have: ¬ 0<=r:=fun h=>by rw [h2.1 h] at hw;cases hw
  simp [this]
 | false=>
  have:0<=r:=h2.2 hw;simp [this]
theorem uW {l:List Int} {x:Int} {n:Nat} (hl:l.length<=LB) (hn:l.length<n):has n l x=some (l.contains x):=by
 unfold has fX;have S:=HP (fun n i=>Na l x n (.l1 i)) l.length 0 (fun i=>if (l.getD i 0 != x) then none else some true) (fun n i _ hi=>?_) (n:=n) (by omega)
 ·refine S.trans ?_;rw [KX,PJ (p:=fun y=>y != x)]
  have e:l.all (fun y=>y != x)= !l.contains x:=by
   rw [zR];simp;exact ⟨fun h hx=>h x hx rfl,fun h y hy e=>h (e▸hy)⟩
  rw [e];cases l.contains x with
  | true=>rfl
  | false=>
   obtain ⟨m,hm⟩: ∃ m,n-l.length=m+1:=⟨n-l.length-1,by omega⟩;rw [hm];simp [Na,YP]
 ·have h1:(i:Int)<(l.length:Int):=by omega
  have h2:=r64 hi hl;simp only [Na,YP,h1,h2,zS,yF,zF,zt,zE,yH];obtain ⟨y,hg⟩: ∃ y,l.getD i 0=y:=⟨_,rfl⟩;simp only [hg]
  by_cases a:y=x
  ·simp [a]
  ·have:(y==x)=false:=by simp [a]
   simp [this,a]
theorem wY {l:List Int} {x:Int} {n:Nat} (hl:l.length<=LB) (hn:l.length<n):Kf n l x=some (l.contains x):=by
 have: ∃ r:Int,Tk n l x=some r/\ (0<=r↔l.contains x=true):=by
  unfold Tk eB;have S:=HP (fun n i=>Ll l x n (.l1 i)) l.length 0 (fun i=>if (x != l.getD i 0) then none else some (i:Int)) (fun n i _ hi=>?_) (n:=n) (by omega)
  ·rw [show Ll l x n (.l1 0)=_ from S];cases hf:(List.range l.length).findSome? (fun i=>if (x != l.getD i 0) then none else some (i:Int)) with
   | some r=>
    refine ⟨r,rfl,?_⟩;obtain ⟨i,hi,hr⟩:=zAI hf;have A7:i<l.length:=by simpa using hi
    split at hr
    ·cases hr
    ·rename_i hx;cases hr;refine ⟨fun _=>?_,fun _=>by omega⟩;have:x=l[i]:=by simpa [A7] using hx
     rw [this];simp
   | none=>
    obtain ⟨m,hm⟩: ∃ m,n-l.length=m+1:=⟨n-l.length-1,by omega⟩;refine ⟨-1,by rw [hm];simp [Ll,XH],?_⟩;rw [zAZ] at hf
    have:l.contains x=false:=by
     rw [zAG];intro h;obtain ⟨i,hi,e⟩:=zX (by simpa using h:x∈l);have:=hf i (by simpa using hi);simp [hi,e] at this
    rw [this];simp
  ·have h1:(i:Int)<(l.length:Int):=by omega
   have h2:=r64 hi hl;simp only [Ll,XH,h1,h2,zS,yF,zF,zt,zE,yH];obtain ⟨y,hg⟩: ∃ y,l.getD i 0=y:=⟨_,rfl⟩;simp only [hg]
   by_cases a:x=y
   ·simp [a]
   ·have:(x==y)=false:=by simp [a]
    simp [this,a]
 obtain ⟨r,h1,h2⟩:=this;unfold Kf Yu;rw [h1]
 by_cases h:0<=r
 ·have:=h2.1 h;simp only [yD];rw [this];simp [h]
 ·have:l.contains x=false:=by rw [zAG];exact fun hc=>h (h2.2 hc)
  simp only [yD];rw [this];simp;omega
end Go.Proofs.YtekkngkphejfcaaGreatDoor
namespace Go.Proofs.YtekkngkphejfcaaGreatDoor
open Go.RowKit
def Ec (g:List (List Int)):Nat:=(g.map fun r=>r.length+2).sum
theorem OR: ∀ {g:List (List Int)} {r:List Int},r∈g -> r.length+2<=Ec g
 | [],_,h=>by cases h
 | a::g,r,h=>by
  simp only [Ec,zi,List.sum_cons];rcases yd.1 h with rfl | h
  ·omega
  ·have:=OR h;unfold Ec at this;omega
theorem Zq {g:List (List Int)} {v:Nat} (hv:v<g.length):Ec (g.drop v)=(g.getD v []).length+2+Ec (g.drop (v+1)):=by
 rw [yc hv];simp only [Ec,zi,List.sum_cons,u8,xz hv,z6]
theorem Nh {g:List (List Int)} {v:Nat} (hv:v<g.length):g.getD v []∈g:=by
 rw [u8,xz hv];exact yZ hv
section
variable {g:List (List Int)} {v j n:Nat}
theorem dG {R:Type} (next OC:R) (c:Bool -> R) (hc:c true=next) (Hm:c false=OC) (hv:v<g.length) (hj:j<(g.getD v []).length):
 (if Ek g v (g.getD v []) j then next else OC)=
  (if (g.getD v []).getD j 0<0 then OC else if (g.getD v []).getD j 0>=(g.length:Int) then OC else if (g.getD v []).getD j 0=(v:Int) then OC else
   if 0<j then (if (g.getD v []).getD (j-1) 0>=(g.getD v []).getD j 0 then OC else c ((g.getD ((g.getD v []).getD j 0).toNat []).contains (v:Int)))
   else c ((g.getD ((g.getD v []).getD j 0).toNat []).contains (v:Int))):=by
 unfold Ek;obtain ⟨x,hx⟩: ∃ x,(g.getD v []).getD j 0=x:=⟨_,rfl⟩;obtain ⟨y,hy⟩: ∃ y,(g.getD v []).getD (j-1) 0=y:=⟨_,rfl⟩;simp only [hx,hy]
 by_cases a:x<0
 ·have: ¬ 0<=x:=by omega
  simp [a,this]
 ·have a':0<=x:=by omega
  by_cases b:x>=(g.length:Int)
  ·have: ¬ x<(g.length:Int):=by omega
   simp [a,b,this]
  ·have b':x<(g.length:Int):=by omega
   by_cases d:x=(v:Int)
   ·simp [a,b,d]
   ·have d':(x != (v:Int))=true:=by simp [d]
    cases hcc:(g.getD x.toNat []).contains (v:Int) with
    | true=>
     by_cases e:0<j
     ·by_cases f:y>=x
      ·have: ¬ y<x:=by omega
       simp [a,b,d,d',e,f,this,a',b']
      ·have f':y<x:=by omega
       simp [a,b,d,d',e,f,f',a',b',hc]
     ·simp [a,b,d,d',e,a',b',hc]
    | false=>
     by_cases e:0<j
     ·by_cases f:y>=x
      ·have: ¬ y<x:=by omega
       simp [a,b,d,d',e,f,this,a',b']
      ·have f':y<x:=by omega
       simp [a,b,d,d',e,f,f',a',b',Hm]
     ·simp [a,b,d,d',e,a',b',Hm]
theorem cE {j len:Nat} (h:j<len) (hl:len<=LB):AH ((j:Int)-1):=by rw [At];unfold LB at hl;omega
theorem Mx {j len:Nat} (h:0<j) (h2:j<len):((0:Int)<=(j:Int)-1/\ (j:Int)-1<(len:Int))/\ ((j:Int)-1).toNat=j-1/\ (j:Int)>0:=by omega
theorem nX {self:Mu -> Option Int} (hv:v<g.length) (hg:g.length<=256) (hj:j<(g.getD v []).length) (hr: ∀ r∈g,r.length<=LB) (hn: ∀ r∈g,r.length<n):
 Sa n self g (v:Int) (j:Int)=(if Ek g v (g.getD v []) j then none else some (120:Int)).or (self (.l2 (v:Int) ((j:Int)+1))):=by
 have Ae:=hr _ (Nh hv);have h1:(v:Int)<(g.length:Int):=by omega
 have h2:(j:Int)<((g.getD v []).length:Int):=by omega
 have h3:=r64 hj Ae;have key:=dG (g:=g) (v:=v) (j:=j) (self (.l2 (v:Int) ((j:Int)+1))) (some (120:Int)) (fun b=>bif b then self (.l2 (v:Int) ((j:Int)+1)) else some 120) rfl rfl hv hj
 have e1:((if Ek g v (g.getD v []) j then none else some (120:Int)).or (self (.l2 (v:Int) ((j:Int)+1))))=(if Ek g v (g.getD v []) j then self (.l2 (v:Int) ((j:Int)+1)) else some 120):=by
  cases Ek g v (g.getD v []) j <;> rfl
 rw [e1,key];simp only [Sa,h1,h2,h3,zS,yF,zF,zt,zE,yH];obtain ⟨x,hx⟩: ∃ x,(g.getD v []).getD j 0=x:=⟨_,rfl⟩;simp only [hx]
 by_cases a:x<0
 ·simp [a]
 by_cases b:x>=(g.length:Int)
 ·simp [a,b]
 by_cases d:x=(v:Int)
 ·simp [a,b,d]
 have d':(x==(v:Int))=false:=by simp [d]
 have Lm:g.getD x.toNat []∈g:=Nh (by omega);have hh:has n (g.getD x.toNat []) (v:Int)=some ((g.getD x.toNat []).contains (v:Int)):=uW (hr _ Lm) (hn _ Lm);have Fm:0<=x/\ x<(g.length:Int):=by omega
 have fin:((has n (g.getD x.toNat []) (v:Int)).bind fun y1=>bif (!y1) then some (120:Int) else self (.l2 (v:Int) ((j:Int)+1)))=(bif (g.getD x.toNat []).contains (v:Int) then self (.l2 (v:Int) ((j:Int)+1)) else some 120):=by
  rw [hh];cases (g.getD x.toNat []).contains (v:Int) <;> rfl
 by_cases e:0<j
 ·have h4:AH ((j:Int)-1)/\ ((0:Int)<=(j:Int)-1/\ (j:Int)-1<((g.getD v []).length:Int)):=⟨cE hj Ae,(Mx e hj).1⟩;have h5:=(Mx e hj).2.1;have e':=(Mx e hj).2.2;simp only [e',h4,h5,e,Fm,d',zS,yF,yB,zE,yA a,yA b,zt,yM a,yM b,yM d,fin]
  by_cases f:(g.getD v []).getD (j-1) 0>=x
  ·simp only [f,zS,yF,zE]
  ·simp only [yA f,yB,yM f]
 ·have e': ¬ (j:Int)>0:=by omega
  simp only [Fm,d',yB,zE,yA a,yA b,yA e',zt,yM a,yM b,yM d,yM e,fin]
theorem u9 {self:Nj -> Option Int} {row:List Int} (QL:row=g.getD v []) (hv:v<g.length) (hg:g.length<=256) (hj:j<(g.getD v []).length) (hr: ∀ r∈g,r.length<=LB) (hn: ∀ r∈g,r.length<n):
 UQ n self g (v:Int) row (v:Int) row (row.length:Int) (j:Int)=(if Ek g v (g.getD v []) j then none else some (120:Int)).or (self (.l2 (v:Int) row (v:Int) row (row.length:Int) ((j:Int)+1))):=by
 subst QL;have Ae:=hr _ (Nh hv);have h1:(v:Int)<(g.length:Int):=by omega
 have h2:(j:Int)<((g.getD v []).length:Int):=by omega
 have h3:=r64 hj Ae;obtain ⟨NX,fc⟩: ∃ NX,self (.l2 (v:Int) (g.getD v []) (v:Int) (g.getD v []) ((g.getD v []).length:Int) ((j:Int)+1))=NX:=⟨_,rfl⟩;have key:=dG (g:=g) (v:=v) (j:=j) NX (some (120:Int)) (fun b=>bif b then NX else some 120) rfl rfl hv hj
 have e1:((if Ek g v (g.getD v []) j then none else some (120:Int)).or NX)=(if Ek g v (g.getD v []) j then NX else some 120):=by
  cases Ek g v (g.getD v []) j <;> rfl
 rw [fc,e1,key];simp only [UQ,h1,h2,h3,zS,yF,zF,zt,zE,yH,fc];obtain ⟨x,hx⟩: ∃ x,(g.getD v []).getD j 0=x:=⟨_,rfl⟩;simp only [hx]
 by_cases a:x<0
 ·simp [a]
 by_cases b:x>=(g.length:Int)
 ·simp [a,b]
 by_cases d:x=(v:Int)
 ·simp [a,b,d]
 have d':(x==(v:Int))=false:=by simp [d]
 have Lm:g.getD x.toNat []∈g:=Nh (by omega);have hh:Kf n (g.getD x.toNat []) (v:Int)=some ((g.getD x.toNat []).contains (v:Int)):=wY (hr _ Lm) (hn _ Lm);have Fm:0<=x/\ x<(g.length:Int):=by omega
 have fin:((Kf n (g.getD x.toNat []) (v:Int)).bind fun y1=>bif (!y1) then some (120:Int) else NX)=(bif (g.getD x.toNat []).contains (v:Int) then NX else some 120):=by
  rw [hh];cases (g.getD x.toNat []).contains (v:Int) <;> rfl
 by_cases e:0<j
 ·have h4:AH ((j:Int)-1)/\ ((0:Int)<=(j:Int)-1/\ (j:Int)-1<((g.getD v []).length:Int)):=⟨cE hj Ae,(Mx e hj).1⟩;have h5:=(Mx e hj).2.1;have e':=(Mx e hj).2.2;simp only [e',h4,h5,e,Fm,d',zS,yF,yB,zE,yA a,yA b,zt,yM a,yM b,yM d,fin]
  by_cases f:(g.getD v []).getD (j-1) 0>=x
  ·simp only [f,zS,yF,zE]
  ·simp only [yA f,yB,yM f]
 ·have e': ¬ (j:Int)>0:=by omega
  simp only [Fm,d',yB,zE,yA a,yA b,yA e',zt,yM a,yM b,yM d,yM e,fin]
end
theorem bU {g:List (List Int)} {v:Nat} (hv:v<g.length):((List.range' v (g.length-v)).all fun i=>Gk g i (g.getD i []))=(Gk g v (g.getD v [])&&(List.range' (v+1) (g.length-(v+1))).all fun i=>Gk g i (g.getD i [])):=by
 have:g.length-v=g.length-(v+1)+1:=by omega
 rw [this,zA2,zAU]
theorem b6 {g:List (List Int)} (hg:g.length<=256) (hr: ∀ r∈g,r.length<=LB): ∀ (k v n:Nat),v+k=g.length -> Ec (g.drop v)+Ec g+1<=n -> HT g n (.l1 (v:Int))=some (CV ((List.range' v (g.length-v)).all fun i=>Gk g i (g.getD i [])) 120)
 | 0,v,n,hv,hn=>by
  have:v=g.length:=by omega
  subst this;obtain ⟨m,rfl⟩: ∃ m,n=m+1:=⟨n-1,by omega⟩;simp [HT,WB,CV]
 | k+1,v,n,hv,hn=>by
  have Cd:v<g.length:=by omega
  rw [Zq Cd] at hn;have hm:=OR (Nh Cd);obtain ⟨m,rfl⟩: ∃ m,n=m+1:=⟨n-1,by omega⟩;have h1:(v:Int)<(g.length:Int):=by omega
  have e1:HT g (m+1) (.l1 (v:Int))=HT g m (.l2 (v:Int) 0):=by simp [HT,WB,h1]
  rw [e1];have S:=HP (fun n i=>HT g n (.l2 (v:Int) i)) (g.getD v []).length (Ec g) (fun j=>if Ek g v (g.getD v []) j then none else some 120) (fun n' j E5 hj=>nX (n:=n') Cd hg hj hr fun r Cm=>by have:=OR Cm;omega) (n:=m) (by omega);refine S.trans ?_;rw [KX,bU Cd];have eR:((List.range (g.getD v []).length).all fun i=>Ek g v (g.getD v []) i)=Gk g v (g.getD v []):=rfl;rw [eR];cases Gk g v (g.getD v []) with
  | false=>rfl
  | true=>
   obtain ⟨m',By⟩: ∃ m',m-(g.getD v []).length=m'+1:=⟨m-(g.getD v []).length-1,by omega⟩;rw [By];have h2:AH ((v:Int)+1):=by rw [At];omega
   have ih:=b6 hg hr k (v+1) m' (by omega) (by omega);have h3: ¬ (((g.getD v []).length:Int)<((g.getD v []).length:Int)):=by omega
   simp only [zE,HT,Sa,h1,h2,zF,zt,yH,yA h3,yB,ye];exact ih
theorem gB {g:List (List Int)} (hg:g.length<=256) (hr: ∀ r∈g,r.length<=LB): ∀ (k v n:Nat),v+k=g.length -> Ec (g.drop v)+Ec g+1<=n -> Hr g n (.l1 (v:Int))=some (CV ((List.range' v (g.length-v)).all fun i=>Gk g i (g.getD i [])) 120)
 | 0,v,n,hv,hn=>by
  have:v=g.length:=by omega
  subst this;obtain ⟨m,rfl⟩: ∃ m,n=m+1:=⟨n-1,by omega⟩;simp [Hr,Yc,CV]
 | k+1,v,n,hv,hn=>by
  have Cd:v<g.length:=by omega
  rw [Zq Cd] at hn;have hm:=OR (Nh Cd);obtain ⟨m,rfl⟩: ∃ m,n=m+1:=⟨n-1,by omega⟩;have h1:(v:Int)<(g.length:Int):=by omega
  have e1:Hr g (m+1) (.l1 (v:Int))=Hr g m (.l2 (v:Int) (g.getD v []) (v:Int) (g.getD v []) ((g.getD v []).length:Int) 0):=by
   simp only [Hr,Yc,h1,zS,yF,zF,zt,zE,yH]
  rw [e1];have S:=HP (fun n i=>Hr g n (.l2 (v:Int) (g.getD v []) (v:Int) (g.getD v []) ((g.getD v []).length:Int) i)) (g.getD v []).length (Ec g) (fun j=>if Ek g v (g.getD v []) j then none else some 120) (fun n' j E5 hj=>u9 (n:=n') rfl Cd hg hj hr fun r Cm=>by have:=OR Cm;omega) (n:=m) (by omega);refine S.trans ?_;rw [KX,bU Cd];have eR:((List.range (g.getD v []).length).all fun i=>Ek g v (g.getD v []) i)=Gk g v (g.getD v []):=rfl;rw [eR];cases Gk g v (g.getD v []) with
  | false=>rfl
  | true=>
   obtain ⟨m',By⟩: ∃ m',m-(g.getD v []).length=m'+1:=⟨m-(g.getD v []).length-1,by omega⟩;rw [By];have h2:AH ((v:Int)+1):=by rw [At];omega
   have ih:=gB hg hr k (v+1) m' (by omega) (by omega);have h3: ¬ (((g.getD v []).length:Int)<((g.getD v []).length:Int)):=by omega
   simp only [zE,Hr,UQ,h2,yA h3,yB,ye];exact ih
theorem nU {g:List (List Int)} {n:Nat} (hr: ∀ r∈g,r.length<=LB) (hn:2*Ec g+1<=n):Sb n g=some (CV (Hp g) 120):=by
 unfold Sb b5 Hp
 by_cases h:(g.length:Int)>256
 ·have: ¬ g.length<=256:=by omega
  simp [h,this,CV]
 ·have h':g.length<=256:=by omega
  have:=b6 h' hr g.length 0 n (by omega) (by simp;omega);simp only [yA h,yB,yI h',ye];rw [zAH];simpa using this
theorem gA {g:List (List Int)} {n:Nat} (hr: ∀ r∈g,r.length<=LB) (hn:2*Ec g+1<=n):Qo n g=some (CV (Hp g) 120):=by
 unfold Qo f9 Hp
 by_cases h:(g.length:Int)>256
 ·have: ¬ g.length<=256:=by omega
  simp [h,this,CV]
 ·have h':g.length<=256:=by omega
  have:=gB h' hr g.length 0 n (by omega) (by simp;omega);simp only [yA h,yB,yI h',ye];rw [zAH];simpa using this
end Go.Proofs.YtekkngkphejfcaaGreatDoor
namespace Go.Proofs.YtekkngkphejfcaaGreatDoor
open Go.RowKit
theorem So {s:Int} (h1:1<=s) (h2:s<=16):IntKind.i64.wrap (1*2 ^ s.toNat)=2 ^ s.toNat/\ AH ((2:Int) ^ s.toNat-1)/\ ((0:Int)<=s/\ s<=((IntKind.i64.bits:Nat):Int)):=by
 obtain ⟨m,rfl⟩:=zAM (show 0<=s by omega);rw [yH];have h:m<17:=by omega
 refine ⟨?_,?_,by omega,by show (m:Int)<=64;omega⟩
 ·revert h;clear h1 h2;revert m;decide
 ·revert h;clear h1 h2;revert m;decide
theorem wB {l:List Int} (hl:l.length<=LB) {i:Nat} (hi:i<l.length) {self:Nw -> Option Bool} {n:Nat} (j:Nat) (hj:j<i):Ul n self l (i:Int) (j:Int)=(if l.getD i 0 != l.getD j 0 then none else some false).or (self (.l2 (i:Int) ((j:Int)+1))):=by
 have h1:(j:Int)<(i:Int):=by omega
 have h2:(i:Int)<(l.length:Int):=by omega
 have h3:(j:Int)<(l.length:Int):=by omega
 have h4:=r64 (show j<l.length by omega) hl;simp only [Ul,h1,h2,h3,h4,zS,yF,zF,zt,zE,yH]
 by_cases a:l.getD i 0=l.getD j 0
 ·have t:(l.getD i 0==l.getD j 0)=true:=by simp only [yk];exact a
  have t':(l.getD i 0 != l.getD j 0)=false:=by simp only [bne,t,yq]
  simp only [t,t',yF,yt,zAA,Option.or]
 ·have:(l.getD i 0==l.getD j 0)=false:=by simp only [zH];exact a
  have a':(l.getD i 0 != l.getD j 0)=true:=by simp only [zl];exact a
  simp only [this,a',yB,zE,Option.or]
theorem jx {l:List Int} {i:Nat} (hi:i<=l.length) {x:Int}:((List.range i).all fun j=>x != l.getD j 0)= !(l.take i).contains x:=by
 rw [zR];simp only [yL,yP,zl,ne_eq,yv,zAG,zr,zAk,not_exists];constructor
 ·intro h j hj e;have BI:j<l.length:=by omega
  refine h j (by omega) ?_;rw [←e];simp [BI]
 ·intro h j hj e;have BI:j<l.length:=by omega
  exact h j (by omega) (by rw [e];simp [BI])
theorem gu {l:List Int} (hl:l.length<=LB): ∀ (k i n:Nat),i+k=l.length -> k*(l.length+2)+1<=n -> Ht l n (.l1 (i:Int))=some ((List.range' i k).all fun i=>!(l.take i).contains (l.getD i 0))
 | 0,i,n,hi,hn=>by
  have:i=l.length:=by omega
  subst this;obtain ⟨m,rfl⟩: ∃ m,n=m+1:=⟨n-1,by omega⟩;simp [Ht,Yp]
 | k+1,i,n,hi,hn=>by
  have A7:i<l.length:=by omega
  rw [zAf] at hn;obtain ⟨m,rfl⟩: ∃ m,n=m+1:=⟨n-1,by omega⟩;have h1:(i:Int)<(l.length:Int):=by omega
  have e1:Ht l (m+1) (.l1 (i:Int))=Ht l m (.l2 (i:Int) 0):=by simp [Ht,Yp,h1]
  rw [e1];have S:=HP (fun n j=>Ht l n (.l2 (i:Int) j)) i 0 (fun j=>if l.getD i 0 != l.getD j 0 then none else some false) (fun n' j _ hj=>wB (n:=n') hl A7 j hj) (n:=m) (by omega);refine S.trans ?_;rw [KX,jx (by omega),zA2,zAU];cases (l.take i).contains (l.getD i 0) with
  | true=>rfl
  | false=>
   obtain ⟨m',By⟩: ∃ m',m-i=m'+1:=⟨m-i-1,by omega⟩;rw [By];have ih:=gu hl k (i+1) m' (by omega) (by omega);have h2:=r64 A7 hl;have h3: ¬ ((i:Int)<(i:Int)):=by omega
   simp only [zC,zE,Ht,Ul,yA h3,yB,h2,ye];exact ih
theorem vz {l:List Int} {n:Nat} (hl:l.length<=LB) (hn:l.length*(l.length+2)+1<=n):Un n l=some (LW l):=by
 unfold Un gt LW;rw [zAH];exact gu hl l.length 0 n (by omega) hn
section
variable {c:AB} {n:Nat}
def I0 (sy:Int) (c:AB):Bool:=CH [c.set,c.other] 0 (2 ^ sy.toNat-1)&&CH [c.lo,c.hi] 0 65536&&decide (c.runs.length<=8)&&CH c.runs 1 256
theorem TT {a b:Int}:([a,b]:List Int).length<=LB:=by show 2<=LB;unfold LB;omega
theorem dg {l:List Int}:(decide (((l.length:Nat):Int)<=8))=decide (l.length<=8):=by rw [zR];simp;omega
theorem vL {self:KW -> Option Bool} {q:AA} (h1:1<=q.symbols) (h2:q.symbols<=16) (hr:c.runs.length<=LB) (hn:c.runs.length<n) (Ic:2<n):UZ n self q c=some (I0 q.symbols c):=by
 obtain ⟨p1,p2,p3⟩:=So h1 h2;unfold UZ;rw [p1,yC ⟨p3,p2⟩,Sh TT (show 2<n from Ic),Sh TT (show 2<n from Ic),Sh hr hn];unfold I0;rw [dg];cases CH [c.set,c.other] 0 (2 ^ q.symbols.toNat-1) <;> cases CH [c.lo,c.hi] 0 65536 <;> cases decide (c.runs.length<=8) <;> rfl
theorem vN {self:KW -> Option Bool} {q:AA} (hq:q.cells<=256) (hc:c.cells.length<=LB) {i:Nat} (hi:i<c.cells.length) {o:List Bool} (ho:o.length=256) (hm: ∀ x:Nat,x<256 -> o.getD x false=(c.cells.take i).contains (x:Int)):
 Qt n self q c (i:Int) o=if ME q.cells c.kind c.cells i then self (.l1 ((i:Int)+1) (o.set (0+(c.cells.getD i 0).toNat) true)) else some false:=by
 have h1:(i:Int)<(c.cells.length:Int):=by omega
 have h2:=r64 hi hc;unfold ME;obtain ⟨x,hx⟩: ∃ x,c.cells.getD i 0=x:=⟨_,rfl⟩;simp only [Qt,h1,h2,zS,yF,zF,zt,zE,yH,hx]
 by_cases a:x<0
 ·have: ¬ 0<=x:=by omega
  simp [a,this]
 have a':0<=x:=by omega
 by_cases b:x>=q.cells
 ·have: ¬ x<q.cells:=by omega
  simp [a,b,this]
 have b':x<q.cells:=by omega
 have hg:((0:Int)<=x/\ x<((256:Nat):Int))/\ 0+x.toNat<o.length:=⟨⟨a',by omega⟩,by omega⟩
 have tX:o.getD (0+x.toNat) false=(c.cells.take i).contains x:=by
  rw [yX,hm x.toNat (by omega)]
  congr 1;omega
 simp only [hg,tX,yA a,yA b,yB,zE,yI a',yI b',ye,zt];cases (c.cells.take i).contains x with
 | true=>rfl
 | false=>
  by_cases e:c.kind>=8
  ·have e':8<=c.kind:=e
   by_cases f:x=(i:Int)
   ·have f1:(x != (i:Int))=false:=by simp [f]
    have f2:(x==(i:Int))=true:=by simp [f]
    simp only [e,e',f1,f2,zS,yF,yB,zC,yq,zv,ye,zE]
   ·have f1:(x != (i:Int))=true:=by simp [f]
    have f2:(x==(i:Int))=false:=by simp [f]
    simp only [e,e',f1,f2,zS,yF,yB,zC,yq,zv,ye,yt,zAA]
  ·have e': ¬ 8<=c.kind:=e;simp only [yA e,yA e',zS,yB,zC,Bool.true_or,Bool.and_self,zE]
theorem vM {self:KW -> Option Bool} {q:AA} {o:List Bool}:Qt n self q c (c.cells.length:Int) o=if E3 q.cells c.kind c.cells.length then self .l2 else some false:=by
 have h1: ¬ ((c.cells.length:Int)<(c.cells.length:Int)):=by omega
 simp only [Qt,yA h1,yB]
 by_cases hk:1<=c.kind/\ c.kind<=9
 ·obtain ⟨k,fE⟩: ∃ k,c.kind=k:=⟨_,rfl⟩;rw [fE] at hk;simp only [fE];have e2:(((c.cells.length:Nat):Int) != 2)= !(c.cells.length==2):=by rw [zR];simp;omega
  have e3:(((c.cells.length:Nat):Int) != q.cells)= !(((c.cells.length:Nat):Int)==q.cells):=rfl;rcases ND hk with h | h | h | h | h | h | h | h | h <;> subst h
  ·rfl
  ·rfl
  ·rfl
  ·rfl
  ·rfl
  ·show (bif (((c.cells.length:Nat):Int) != 2) then some false else self .l2)=_
   rw [e2];unfold E3;cases c.cells.length==2 <;> rfl
  ·show (bif (((c.cells.length:Nat):Int) != 2) then some false else self .l2)=_
   rw [e2];unfold E3;cases c.cells.length==2 <;> rfl
  ·show (bif (((c.cells.length:Nat):Int) != q.cells) then some false else self .l2)=_
   rw [e3];unfold E3;cases ((c.cells.length:Nat):Int)==q.cells <;> rfl
  ·show (bif (((c.cells.length:Nat):Int) != q.cells) then some false else self .l2)=_
   rw [e3];unfold E3;cases ((c.cells.length:Nat):Int)==q.cells <;> rfl
 ·have JJ:E3 q.cells c.kind c.cells.length=false:=by
   rw [zAG];exact fun h=>hk (P0 h)
  rw [JJ];have z: ∀ m:Int,1<=m -> m<=9 -> (c.kind==m)=false:=fun m h1 h2=>by simp only [zH];omega
  simp [z 1,z 2,z 3,z 4,z 5,z 6,z 7,z 8,z 9]
theorem gI {q:AA} (hq:q.cells<=256) (hc:c.cells.length<=LB) (h1:1<=q.symbols) (h2:q.symbols<=16) (hr:c.runs.length<=LB): ∀ (k i n:Nat) (o:List Bool),i+k=c.cells.length -> k+c.runs.length+6<=n -> o.length=256 -> (∀ x:Nat,x<256 -> o.getD x false=(c.cells.take i).contains (x:Int)) ->
 Nn q c n (.l1 (i:Int) o)=some ((List.range' i k).all (ME q.cells c.kind c.cells)&&E3 q.cells c.kind c.cells.length&&I0 q.symbols c)
 | 0,i,n,o,hi,hn,ho,hm=>by
  have:i=c.cells.length:=by omega
  subst this;obtain ⟨m,rfl⟩: ∃ m,n=m+1:=⟨n-1,by omega⟩;refine (vM (n:=m)).trans ?_;cases E3 q.cells c.kind c.cells.length with
  | false=>simp
  | true=>
   obtain ⟨m',rfl⟩: ∃ m',m=m'+1:=⟨m-1,by omega⟩
   show UZ m' (Nn q c m') q c=_
   rw [vL h1 h2 hr (by omega) (by omega)];simp
 | k+1,i,n,o,hi,hn,ho,hm=>by
  obtain ⟨m,rfl⟩: ∃ m,n=m+1:=⟨n-1,by omega⟩;refine (vN (n:=m) hq hc (show i<c.cells.length by omega) ho hm).trans ?_;rw [zA2,zAU];cases UE:ME q.cells c.kind c.cells i with
  | false=>simp
  | true=>
   have hx:0<=c.cells.getD i 0/\ c.cells.getD i 0<q.cells:=by
    unfold ME at UE;simp only [yG,yg] at UE;exact ⟨UE.1.1.1,UE.1.1.2⟩
   have ih:=gI hq hc h1 h2 hr k (i+1) m (o.set (0+(c.cells.getD i 0).toNat) true) (by omega) (by omega) (by simp [ho]) (fun x rG=>?_)
   ·simp only [zE,ye];exact ih
   ·have A7:i<c.cells.length:=by omega
    rw [yX]
    have ht:c.cells.take (i+1)=c.cells.take i++[c.cells.getD i 0]:=by
     rw [List.take_add_one];simp [A7]
    rw [ht,List.contains_append,←hm x rG];rw [u8,ym]
    by_cases e:(c.cells.getD i 0).toNat=x
    ·have e2:((x:Nat):Int)=c.cells.getD i 0:=by omega
     rw [yC e,yC (by omega)];simp [e2]
    ·have e2: ¬ ((x:Nat):Int)=c.cells.getD i 0:=by omega
     rw [yM e]
     have e3:([c.cells.getD i 0].contains ((x:Nat):Int))=false:=by
      simp only [List.contains_cons,List.contains_nil,zj,zH];exact e2
     rw [e3,zj,u8]
theorem vP {q:AA} (hq:q.cells<=256) (hc:c.cells.length<=LB) (h1:1<=q.symbols) (h2:q.symbols<=16) (hr:c.runs.length<=LB) (hn:c.cells.length+c.runs.length+6<=n):Ua n q c=some (C5 q c):=by
 unfold Ua gJ;have:=gI hq hc h1 h2 hr c.cells.length 0 n (List.replicate 256 false) (by omega) (by omega) yY (fun x hx=>by rw [u8,zL,yC hx];rfl);refine Eq.trans this ?_;rw [←zAH];unfold C5 U3 I0;simp only [Bool.and_assoc]
end
end Go.Proofs.YtekkngkphejfcaaGreatDoor
namespace Go.Proofs.YtekkngkphejfcaaGreatDoor
open Go.RowKit
section
variable {c:AB} {n:Nat} {cells sy:Int}
def NI (c:AB):Bool:=(List.range c.cells.length).all fun i=>c.cells.getD i 0==(i:Int)
theorem m5 (hc:c.cells.length<=LB) (hr:c.runs.length<=LB) (h1:1<=sy) (h2:sy<=16) (hn:c.cells.length+c.runs.length+6<=n):J0 c cells sy n (.l1 0)=some ((!(c.kind==8||c.kind==9)||NI c)&&I0 sy c):=by
 have S:=HP (fun n i=>J0 c cells sy n (.l1 i)) c.cells.length 0 (fun i=>if (!(c.kind==8||c.kind==9)||c.cells.getD i 0==(i:Int)) then none else some false) (fun n i _ hi=>?_) (n:=n) (by omega)
 ·refine S.trans ?_;rw [KX]
  have e:((List.range c.cells.length).all fun i=>(!(c.kind==8||c.kind==9)||c.cells.getD i 0==(i:Int)))=(!(c.kind==8||c.kind==9)||NI c):=by
   unfold NI;cases (c.kind==8||c.kind==9) with
   | true=>simp
   | false=>simp
  rw [e];cases (!(c.kind==8||c.kind==9)||NI c) with
  | false=>rfl
  | true=>
   obtain ⟨m,hm⟩: ∃ m,n-c.cells.length=m+1:=⟨n-c.cells.length-1,by omega⟩;rw [hm];obtain ⟨p1,p2,p3⟩:=So h1 h2;have h3: ¬ ((c.cells.length:Int)<(c.cells.length:Int)):=by omega
   show PG m (J0 c cells sy m) c cells sy (c.cells.length:Int)=_
   unfold PG;rw [yA h3,yB,p1,yC ⟨p3,p2⟩,RQ TT (show 2<m by omega),RQ TT (show 2<m by omega),RQ hr (show c.runs.length<m by omega)];unfold I0;rw [dg];cases CH [c.set,c.other] 0 (2 ^ sy.toNat-1) <;> cases CH [c.lo,c.hi] 0 65536 <;> cases decide (c.runs.length<=8) <;> rfl
 ·have h1:(i:Int)<(c.cells.length:Int):=by omega
  have h2:=r64 hi hc
  show PG n (J0 c cells sy n) c cells sy (i:Int)=_
  generalize J0 c cells sy n=self
  simp only [PG,h1,h2,zS,yF,zF,zt,zE,yH];obtain ⟨x,hx⟩: ∃ x,c.cells.getD i 0=x:=⟨_,rfl⟩;simp only [hx]
  by_cases f:x=(i:Int)
  ·have f1:(x != (i:Int))=false:=by simp [f]
   have f2:(x==(i:Int))=true:=by simp [f]
   rw [f1,f2];cases c.kind==8 <;> cases c.kind==9 <;> rfl
  ·have f1:(x != (i:Int))=true:=by simp [f]
   have f2:(x==(i:Int))=false:=by simp [f]
   rw [f1,f2];cases c.kind==8 <;> cases c.kind==9 <;> rfl
theorem m6 (hc:c.cells.length<=LB) (hr:c.runs.length<=LB) (h0:1<=cells) (h00:cells<=256) (h1:1<=sy) (h2:sy<=16) (hn:c.cells.length*(c.cells.length+2)+c.cells.length+c.runs.length+7<=n):SV n c cells sy=some (SU c cells sy):=by
 have loop:=m5 (cells:=cells) hc hr h1 h2 (n:=n) (by omega);have hR:AH (cells-1):=by rw [At];omega
 unfold SV bu SU;simp only [hR,zE,RQ hc (show c.cells.length<n by omega),vz hc (show c.cells.length*(c.cells.length+2)+1<=n by omega),loop,yD];have tv:((List.range c.cells.length).all fun i=>c.cells.getD i 0==(i:Int))=NI c:=rfl;have ro: ∀ b:Bool,(b&&CH [c.set,c.other] 0 (2 ^ sy.toNat-1)&&CH [c.lo,c.hi] 0 65536&&decide (c.runs.length<=8)&&CH c.runs 1 256)=(b&&I0 sy c):=fun b=>by unfold I0;simp only [Bool.and_assoc]
 rw [tv,ro];have e2:(((c.cells.length:Nat):Int) != 2)= !(c.cells.length==2):=by rw [zR];simp;omega
 have e3:(((c.cells.length:Nat):Int) != cells)= !(((c.cells.length:Nat):Int)==cells):=rfl;rw [e2,e3]
 generalize I0 sy c=R
 generalize NI c=D
 generalize CH c.cells 0 (cells-1)=W
 generalize LW c.cells=U
 generalize (c.cells.length==2)=T
 generalize hE:(((c.cells.length:Nat):Int)==cells)=E
 by_cases k1:c.kind<1
 ·have: ¬ 1<=c.kind:=by omega
  simp [k1,this]
 by_cases k2:c.kind>9
 ·have: ¬ c.kind<=9:=by omega
  simp [k1,k2,this]
 by_cases k3:((c.cells.length:Nat):Int)>cells
 ·have: ¬ ((c.cells.length:Nat):Int)<=cells:=by omega
  simp [k1,k2,k3,this]
 have W6:1<=c.kind:=by omega
 have Wz:c.kind<=9:=by omega
 have qO:((c.cells.length:Nat):Int)<=cells:=by omega
 simp only [yA k1,yA k2,yA k3,yI W6,yI Wz,yI qO,yB,ye];obtain ⟨k,hk⟩: ∃ k,c.kind=k:=⟨_,rfl⟩;rw [hk] at W6 Wz;simp only [hk];clear hE;rcases ND ⟨W6,Wz⟩ with h | h | h | h | h | h | h | h | h <;> subst h <;> cases W <;> cases U <;> cases T <;> cases E <;> cases D <;> cases R <;> rfl
end
def Md (c:AB):Nat:=c.cells.length*(c.cells.length+2)+c.cells.length+c.runs.length+7
theorem ae (c:AB):Md c=c.cells.length*(c.cells.length+2)+c.cells.length+c.runs.length+7:=rfl
def Dl (q:AA):Nat:=q.values.length+2*Ec q.nbrs+(q.cons.map Md).sum+q.cons.length+10
structure Cq (q:AA):Prop where
 values:q.values.length<=LB
 nbrs: ∀ r∈q.nbrs,r.length<=LB
 cells: ∀ c∈q.cons,c.cells.length<=LB
 runs: ∀ c∈q.cons,c.runs.length<=LB
theorem Vj: ∀ {l:List AB} {c:AB},c∈l -> Md c<=(l.map Md).sum
 | [],_,h=>by cases h
 | a::l,c,h=>by
  rw [zi,List.sum_cons];rcases yd.1 h with rfl | h
  ·omega
  ·have:=Vj h;omega
section
variable {q:AA} {n:Nat}
theorem gR {b:Bool}:(CV b 120==0)=b:=by cases b <;> rfl
theorem ji (hF:Cq q) (h1:1<=q.cells) (h2:q.cells<=256) (h3:1<=q.symbols) (h4:q.symbols<=16) (h5:q.cons.length<=4096) (hn:Dl q<=n): ∃ r:Int,Tf n q.cons q=some r/\ (0<=r↔q.cons.all (C5 q)=false):=by
 unfold Tf d8;have S:=HP (fun n i=>KB q.cons q n (.l1 i)) q.cons.length (q.cons.map Md).sum (fun i=>if C5 q (q.cons.getD i default) then none else some (i:Int)) (fun n i E5 hi=>?_) (n:=n) (by unfold Dl at hn;omega)
 ·rw [show KB q.cons q n (.l1 0)=_ from S];cases hf:(List.range q.cons.length).findSome? (fun i=>if C5 q (q.cons.getD i default) then none else some (i:Int)) with
  | some r=>
   refine ⟨r,rfl,?_⟩;obtain ⟨i,hi,hr⟩:=zAI hf;have A7:i<q.cons.length:=by simpa using hi
   split at hr
   ·cases hr
   ·rename_i hx;cases hr;refine ⟨fun _=>?_,fun _=>by omega⟩;rw [List.all_eq_false];exact ⟨q.cons[i],yZ A7,by simpa [A7] using hx⟩
  | none=>
   obtain ⟨m,hm⟩: ∃ m,n-q.cons.length=m+1:=⟨n-q.cons.length-1,by unfold Dl at hn;omega⟩;refine ⟨-1,by rw [hm];simp [KB,Td],?_⟩;rw [zAZ] at hf
   have:q.cons.all (C5 q)=true:=by
    rw [←PJ (p:=C5 q) (d:=(default:AB)),yL];intro i hi;have:=hf i hi;cases hc:C5 q (q.cons.getD i default) with
    | true=>rfl
    | false=>rw [hc] at this;simp at this
   simp [this]
 ·have AK:(i:Int)<(q.cons.length:Int):=by omega
  have hR:AH ((i:Int)+1):=by rw [At];omega
  have Bx:q.cons.getD i default∈q.cons:=by rw [u8,xz hi];exact yZ hi
  have A2:=Vj Bx;have UB:=vP (n:=n) h2 (hF.cells _ Bx) h3 h4 (hF.runs _ Bx) (by rw [ae (q.cons.getD i default)] at A2;omega)
  show Td n (KB q.cons q n) q.cons q (i:Int)=_
  generalize KB q.cons q n=self
  simp only [Td,Rn,Vc,AK,hR,zS,yF,zF,zt,zE,yH,UB,yD];cases C5 q (q.cons.getD i default) <;> rfl
theorem Zx (hF:Cq q) (hn:Dl q<=n):valid n q=some (CV (CY q) 191):=by
 unfold valid Zw CY;have hv:=Sh (lo:=0) (up:=99) hF.values (show q.values.length<n by unfold Dl at hn;omega);have hg:=gA hF.nbrs (show 2*Ec q.nbrs+1<=n by unfold Dl at hn;omega)
 by_cases c1:q.cells<1
 ·have: ¬ 1<=q.cells:=by omega
  simp [c1,this,CV]
 have RN:1<=q.cells:=by omega
 by_cases c2:q.cells>256
 ·have: ¬ q.cells<=256:=by omega
  simp [c1,c2,this,CV]
 have RM:q.cells<=256:=by omega
 by_cases c3:q.symbols<1
 ·have: ¬ 1<=q.symbols:=by omega
  simp [c1,c2,c3,this,CV]
 have RL:1<=q.symbols:=by omega
 by_cases c4:q.symbols>16
 ·have: ¬ q.symbols<=16:=by omega
  simp [c1,c2,c3,c4,this,CV]
 have RJ:q.symbols<=16:=by omega
 simp only [yA c1,yA c2,yA c3,yA c4,yI RN,yI RM,yI RL,yI RJ,yB,ye,hv,hg,yD,bne,gR];cases ((q.values.length:Nat):Int)==q.symbols with
 | false=>rfl
 | true=>
 cases CH q.values 0 99 with
 | false=>rfl
 | true=>
 cases ((q.nbrs.length:Nat):Int)==q.cells with
 | false=>rfl
 | true=>
 cases Hp q.nbrs with
 | false=>rfl
 | true=>
 by_cases c5:((q.cons.length:Nat):Int)>4096
 ·have: ¬ q.cons.length<=4096:=by omega
  simp [c5,this,CV]
 have RH:q.cons.length<=4096:=by omega
 obtain ⟨r,r1,r2⟩:=ji hF RN RM RL RJ RH hn;simp only [Us,Ys,r1,yA c5,yI RH,yD,yB,ye,yq,vh,beq_self_eq_true];cases ha:q.cons.all (C5 q) with
 | false=>
  have:r>=0:=r2.2 ha;simp [this,CV]
 | true=>
  have: ¬ r>=0:=fun h=>by rw [r2.1 h] at ha;cases ha
  simp [this,CV]
theorem lz (hF:Cq q) (h1:1<=q.cells) (h2:q.cells<=256) (h3:1<=q.symbols) (h4:q.symbols<=16) (h5:q.cons.length<=4096) (hn:Dl q<=n):Jr q n (.l1 0)=some (CV (q.cons.all (C5 q)) 191):=by
 have S:=HP (fun n i=>Jr q n (.l1 i)) q.cons.length (q.cons.map Md).sum (fun i=>if C5 q (q.cons.getD i default) then none else some 191) (fun n i E5 hi=>?_) (n:=n) (by unfold Dl at hn;omega)
 ·refine S.trans ?_;rw [KX,PJ (p:=C5 q)];cases q.cons.all (C5 q) with
  | false=>rfl
  | true=>
   obtain ⟨m,hm⟩: ∃ m,n-q.cons.length=m+1:=⟨n-q.cons.length-1,by unfold Dl at hn;omega⟩;rw [hm];simp [Jr,SD,CV]
 ·have AK:(i:Int)<(q.cons.length:Int):=by omega
  have hR:AH ((i:Int)+1):=by rw [At];omega
  have Bx:q.cons.getD i default∈q.cons:=by rw [u8,xz hi];exact yZ hi
  have A2:=Vj Bx;have UB:=m6 (n:=n) (hF.cells _ Bx) (hF.runs _ Bx) h1 h2 h3 h4 (by rw [ae (q.cons.getD i default)] at A2;omega);rw [m7 q _ h1] at UB
  show SD n (Jr q n) q (i:Int)=_
  generalize Jr q n=self
  simp only [SD,AK,hR,zS,yF,zF,zt,zE,yH,UB,yD];cases C5 q (q.cons.getD i default) <;> rfl
theorem bP (hF:Cq q) (hn:Dl q<=n):Oz n q=some (CV (CY q) 191):=by
 unfold Oz bO CY;have hv:=RQ (lo:=0) (up:=99) hF.values (show q.values.length<n by unfold Dl at hn;omega);have hg:=nU hF.nbrs (show 2*Ec q.nbrs+1<=n by unfold Dl at hn;omega)
 by_cases c1:q.cells<1
 ·have: ¬ 1<=q.cells:=by omega
  simp [c1,this,CV]
 have RN:1<=q.cells:=by omega
 by_cases c2:q.cells>256
 ·have: ¬ q.cells<=256:=by omega
  simp [c1,c2,this,CV]
 have RM:q.cells<=256:=by omega
 by_cases c3:q.symbols<1
 ·have: ¬ 1<=q.symbols:=by omega
  simp [c1,c2,c3,this,CV]
 have RL:1<=q.symbols:=by omega
 by_cases c4:q.symbols>16
 ·have: ¬ q.symbols<=16:=by omega
  simp [c1,c2,c3,c4,this,CV]
 have RJ:q.symbols<=16:=by omega
 simp only [yA c1,yA c2,yA c3,yA c4,yI RN,yI RM,yI RL,yI RJ,yB,ye,hv,hg,yD,bne,gR];cases ((q.values.length:Nat):Int)==q.symbols with
 | false=>rfl
 | true=>
 cases CH q.values 0 99 with
 | false=>rfl
 | true=>
 cases ((q.nbrs.length:Nat):Int)==q.cells with
 | false=>rfl
 | true=>
 cases Hp q.nbrs with
 | false=>rfl
 | true=>
 by_cases c5:((q.cons.length:Nat):Int)>4096
 ·have: ¬ q.cons.length<=4096:=by omega
  simp [c5,this,CV]
 have RH:q.cons.length<=4096:=by omega
 simp only [lz hF RN RM RL RJ RH hn,yA c5,yI RH,yB,ye,yq]
theorem pS {k:Int} (h:1<=k/\ k<=9):([0,1,1,2,2,3,1,1,4,4]:List Int).getD k.toNat 0=Fj k:=by
 rcases ND h with h | h | h | h | h | h | h | h | h <;> subst h <;> rfl
theorem qE (hv:CY q=true) {i:Int} (h0:0<=i) (hi:i<(q.cons.length:Int)):1<=(q.cons.getD i.toNat default).kind/\ (q.cons.getD i.toNat default).kind<=9:=by
 have A7:i.toNat<q.cons.length:=by omega
 have Bx:q.cons.getD i.toNat default∈q.cons:=by rw [u8,xz A7];exact yZ A7
 exact P0 (dp ((DX hv).2.2.2.2.2 _ Bx))
theorem Wt (hF:Cq q) (hn:Dl q<=n) (i:Int):Lf n q i=some (Gv q i):=by
 unfold Lf Ws Gv;rw [Zx hF hn];cases hv:CY q with
 | false=>rfl
 | true=>
  by_cases h0:i<0
  ·have: ¬ (0<=i/\ i<(q.cons.length:Int)):=by omega
   simp [CV,h0,this]
  ·by_cases hi:i>=(q.cons.length:Int)
   ·have: ¬ (0<=i/\ i<(q.cons.length:Int)):=by omega
    simp [CV,h0,hi,this]
   ·have hc:0<=i/\ i<(q.cons.length:Int):=by omega
    have hk:=qE hv hc.1 hc.2;have hg:(0<=i/\ i<(q.cons.length:Int))/\ (0<=(q.cons.getD i.toNat default).kind/\ (q.cons.getD i.toNat default).kind<((10:Nat):Int)):=⟨hc,by omega,by omega⟩;simp only [CV,zE,yD,bne_self_eq_false,yB,yA h0,yA hi,yC hg,yC hc,pS hk,Bool.true_eq_false,zAA]
theorem vZ (hn:q.cons.length<n): ∃ b,Ug n q=some b:=by
 unfold Ug gM
 have loop:q.cons.length<=120 -> ∃ b,JR q n (.l1 0)=some b:=fun hl=>by
  have S:=HP (fun n i=>JR q n (.l1 i)) q.cons.length 0 (fun i=>if (!(decide (((q.cons.getD i default).cells.length:Int)>20))&&!(decide (((q.cons.getD i default).runs.length:Int)>10))) then none else some false) (fun n i _ hi=>?_) (n:=n) (by omega)
  ·rw [show JR q n (.l1 0)=_ from S];rw [KX];split
   ·obtain ⟨m,hm⟩: ∃ m,n-q.cons.length=m+1:=⟨n-q.cons.length-1,by omega⟩;exact ⟨true,by rw [hm];simp [JR,Ue]⟩
   ·exact ⟨false,rfl⟩
  ·have AK:(i:Int)<(q.cons.length:Int):=by omega
   have hR:AH ((i:Int)+1):=by rw [At];omega
   show Ue n (JR q n) q (i:Int)=_
   generalize JR q n=self
   simp only [Ue,AK,hR,zS,yF,zF,zt,zE,yH];cases decide (((q.cons.getD i default).cells.length:Int)>20) <;> cases decide (((q.cons.getD i default).runs.length:Int)>10) <;> rfl
 cases decide (q.cells>16) with
 | true=>exact ⟨_,rfl⟩
 | false=>
 cases decide (q.symbols>6) with
 | true=>exact ⟨_,rfl⟩
 | false=>
 cases decide (((q.values.length:Nat):Int)>8) with
 | true=>exact ⟨_,rfl⟩
 | false=>
 cases decide (((q.nbrs.length:Nat):Int)>20) with
 | true=>exact ⟨_,rfl⟩
 | false=>
 by_cases h:((q.cons.length:Nat):Int)>120
 ·rw [yI h];exact ⟨_,rfl⟩
 ·rw [yA h];exact loop (by omega)
theorem vX {pos:List Int} (hn:q.cons.length<n): ∃ b,Qv n q pos=some b:=by
 obtain ⟨b,hb⟩:=vZ hn;unfold Qv Yg;rw [hb];cases b
 ·exact ⟨_,rfl⟩
 ·exact ⟨_,rfl⟩
end
end Go.Proofs.YtekkngkphejfcaaGreatDoor
namespace Go.Proofs.YtekkngkphejfcaaGreatDoor
abbrev zAa:=@BitVec.ofInt_natCast
abbrev zA7:=@Go.Lib.hid
end Go.Proofs.YtekkngkphejfcaaGreatDoor
namespace Go.Proofs.YtekkngkphejfcaaGreatDoor
open Go.RowKit
theorem jl (x k XN:Nat) (w:World) (FL:((x:Int)==0)=false)
 (key:IntKind.u64.wrap (bits BinOp.and IntKind.u64 (x:Int) (IntKind.u64.wrap (-(x:Int)))*285870213051353865)/288230376151711744=(XN:Int))
 (hi:XN<64) (hk:k<64) (C1:w.cell? ⟨1,XN,none⟩=some (.int .u8 k)):
 Calls Tryz.prog 101 #[.int .u64 x] w fun e w'=>e= .returned (.int .i64 k)/\ w=w':=by
 go_enter Tryz.func101,Tryz.ntmps101
 go_wp2_with (simp only [key])
 go_ret
 exact ⟨rfl,rfl⟩
theorem jm (x:Nat) (hx:x<18446744073709551616) (FL:x≠0) (w:World) (hT:Kl w):
 Calls Tryz.prog 101 #[.int .u64 x] w fun e w'=>e= .returned (.int .i64 (Lib.ctz 64 x))/\ w=w':=by
 obtain ⟨T7,hk⟩:=Lib.lowest_bit 64 x FL hx;obtain ⟨hi,rS⟩:=Lib.deBruijn64_at _ hk;have C1:=hT _ hi;rw [rS] at C1;exact jl x _ _ w (by simp;omega) (tz64_key x _ hx FL T7) hi hk C1
theorem jk (x:Nat) (hx:x<18446744073709551616) (FL:x≠0) (w:World) (hT:Kl w):
 Calls Tryz.prog 70 #[.int .u64 x] w fun e w'=>e= .returned (.int .i64 (Lib.ctz 64 x))/\ w=w':=by
 have h1:=jm x hx FL w hT
 go_enter Tryz.func70,Tryz.ntmps70
 go_wp2_with (go_at_call 101;refine h1.mono ?_;rintro e w' ⟨rfl,rfl⟩)
 go_ret
 exact ⟨rfl,rfl⟩
def D1 (x:Nat):List Nat:=(List.range 64).filter fun s=>x.testBit s
theorem af:D1 0= []:=by simp [D1]
theorem pT (k m s:Nat):(2 ^ k*(2*m+1)).testBit s=(decide (k<=s)&&(2*m+1).testBit (s-k)):=by
 rw [zu,Nat.testBit_mul_two_pow]
theorem oq (m s:Nat):(2*m+1).testBit s=(decide (s=0)||(2*m).testBit s):=by
 cases s with
 | zero=>simp [Nat.testBit_zero]
 | succ s=>simp [Nat.testBit_succ];congr 1;omega
theorem nY: ∀ k,k<64 -> List.range 64=List.range k++k::List.range' (k+1) (63-k):=by decide+kernel
theorem ah (x:Nat) (hx:x<18446744073709551616) (FL:x≠0):D1 x=Lib.ctz 64 x::D1 (x&&& (x-1)):=by
 have hc:Lib.ctz 64 x=Lib.ctzFrom 64 x:=by simp [Lib.ctz,FL]
 obtain ⟨m,hm,hk⟩:=Lib.ctzFrom_spec 64 x (by omega) (by simpa using hx);rw [hc]
 generalize Lib.ctzFrom 64 x=k at*
 have hb: ∀ s,x.testBit s=(decide (k<=s)&&(decide (s-k=0)||(2*m).testBit (s-k))):=fun s=>by rw [hm,pT,oq]
 have hy: ∀ s,(x&&& (x-1)).testBit s=(x.testBit s&&decide (s≠k)):=by
  intro s;have hp:0<2 ^ k:=Nat.two_pow_pos k
  have Ln:x-1=2 ^ k*(2*m)+(2 ^ k-1):=by
   rw [hm,Nat.mul_add,zD];omega
  have fV:(x-1).testBit s=if s<k then (2 ^ k-1).testBit s else (2*m).testBit (s-k):=by
   rw [Ln,Nat.testBit_two_pow_mul_add _ (by omega)]
  rw [Nat.testBit_and,fV,hb]
  by_cases h1:s<k
  ·rw [yA (by omega: ¬ k<=s)];simp
  ·rw [yM h1]
   by_cases h2:s=k
   ·subst h2;simp
   ·rw [yI (by omega:k<=s),yA (by omega: ¬ s-k=0)];simp [h2]
 unfold D1;have hr:List.range 64=List.range k++k::List.range' (k+1) (63-k):=nY k hk;rw [hr];simp only [List.filter_append,List.filter_cons]
 have h1: ∀ y:Nat,(∀ s,s<k -> y.testBit s=false) -> (List.range k).filter (fun s=>y.testBit s)= []:=fun y h=>by
  rw [List.filter_eq_nil_iff];intro s hs;simp [h s (yP.1 hs)]
 rw [h1 x (fun s hs=>by rw [hb];simp;omega),h1 (x&&& (x-1)) (fun s hs=>by rw [hy,hb];simp;omega)];have h2:x.testBit k=true:=by rw [hb];simp
 have h3:(x&&& (x-1)).testBit k=false:=by rw [hy];simp
 simp only [h2,h3,zc,zE,yt,zAA]
 congr 1
 apply List.filter_congr;intro s hs;rw [hy];have:=List.mem_range'_1.1 hs;simp;omega
theorem xZ (x:Nat) (hx:x<9223372036854775808) (FL:x≠0):bits .and .i64 (x:Int) ((x:Int)-1)=((x&&& (x-1):Nat):Int):=by
 have e:((x:Int)-1)=((x-1:Nat):Int):=by omega
 have AK:x&&& (x-1)<=x:=Nat.and_le_left;rw [e]
 have h1:(BitVec.ofInt 64 (x:Int)).toNat=x:=by
  rw [zAa,BitVec.toNat_ofNat];exact zAg (by omega)
 have h2:(BitVec.ofInt 64 ((x-1:Nat):Int)).toNat=x-1:=by
  rw [zAa,BitVec.toNat_ofNat];exact zAg (by omega)
 show IntKind.i64.wrap ((BitVec.ofInt 64 (x:Int)&&& BitVec.ofInt 64 ((x-1:Nat):Int)).toNat:Int)=_
 rw [BitVec.toNat_and,h1,h2];have hm:((x&&& (x-1):Nat):Int) % 2 ^ 64=((x&&& (x-1):Nat):Int):=by omega
 simp only [IntKind.wrap,IntKind.signed,IntKind.bits,hm];rw [yM (by rw [ye,yg];omega)]
def bE (w:World) (b o:Nat):Nat:=match w.cell? ⟨b,o,none⟩ with
 | some (.int _ x)=>x.toNat
 | _=>0
def Rv (s:Nat):Array Value:=#[.int .i64 s]
set_option maxRecDepth 100000 in
set_option maxHeartbeats 4000000 in
theorem j3 (set b o:Nat) (w:World) (ra:set<9223372036854775808) (hT:Kl w) (hb:w.cell? ⟨b,o,none⟩=some (.int .i64 set)) (Ie:w.frozen? ⟨b,o,none⟩=false) (uP:b≠1):
 H9 Tryz.prog 69 #[.pointer (some ⟨b,o,none⟩)] ((D1 set).map Rv) (fun k=>k=b) (fun k=>k=1) w:=by
 intro l J Jx G W hJ hJx hU hG YV hY h0;have HY:=zA7 hY;clear hY;have YW:G b:=hG b rfl;have uR:W.cell? ⟨b,o,none⟩=some (.int .i64 set):=hU.cell (fun h=>h (.inl rfl)) hb
 have uB:W.frozen? ⟨b,o,none⟩=false:=by
  rw [World.frozen?_of_block (hU.block b (zf w _ hb) (fun h=>h (.inl rfl)))];exact Ie
 have ud:Kl W:=fun j hj=>hU.cell (fun h=>h (.inr rfl)) (hT j hj)
 refine callsIn_of_wp Tryz.func69 rfl trivial ?_ rfl;simp only [Tryz.ntmps69,zAv,zQ,za,Nat.reduceAdd,Nat.reduceSub,Array.replicate_succ,Array.replicate_zero,List.push_toArray,List.append_toArray,zc,List.cons_append]
 gi_wp2
 gi_loopw [3,4,5,6,7,8,9,10,11,12,13,14] (fun _ _ _ _ _ _ _ _ _ _ _ _ wr=>∃ (i x:Nat),W.heap.size<=wr.heap.size/\ x<9223372036854775808/\ i<=(D1 set).length/\ Hid ((D1 set).drop i=D1 x)/\ Hid (J i G wr)/\ wr.cell? ⟨b,o,none⟩=some (.int .i64 x)/\ wr.frozen? ⟨b,o,none⟩=false/\ Hid (Kl wr))
  (fun _ _ _ _ _ _ _ _ _ _ _ _ wr=>bE wr b o)
 case atStart=>exact ⟨0,set,yf _,ra,zz _,zA7 rfl,zA7 h0,uR,uB,zA7 ud⟩
 case round=>
  obtain ⟨i,x,A2,hx,B5,hd,hj,hc,hf,ht⟩:=hrel
  by_cases FL:x=0
  ·subst FL
   have CS:i=(D1 set).length:=by
    have:=congrArg List.length hd.out;rw [zAi,af,za] at this;omega
   gi_wp2
   go_end0
   exact ⟨⟨_,rfl⟩,.inl ⟨G,CS▸hj.out⟩⟩
  ·have N0:((x:Int)==0)=false:=by simp [FL]
   have Lz:(D1 set).drop i=Lib.ctz 64 x::D1 (x&&& (x-1)):=by rw [hd.out,ah x (by omega) FL]
   have CS:i<(D1 set).length:=by
    rcases zd i (D1 set).length with h | h
    ·exact h
    ·rw [zI h] at Lz;cases Lz
   have tu:(D1 set)[i]=Lib.ctz 64 x:=by
    have:=yc CS;rw [Lz] at this;injection this with h1 h2;exact h1.symm
   obtain ⟨fn,tmps,ig,body,hy,hR⟩:=HY.out i (Rv (Lib.ctz 64 x)) G wr (by rw [yS,xz CS,tu];rfl) hj.out;have uf:=zA7 hR;clear hR;unfold Rv at hy;have rR:=zA7 (jk x (by omega) FL wr ht.out);have uJ:=zA7 Lz;clear Lz hd
   gi_wp2_with (first | refine ⟨trivial,rfl,?_⟩ | (gi_at_call 70;refine (callsIn_wide.2 rR.out).mono ?_;rintro e w' ⟨rfl,rfl⟩))
   refine ⟨rfl,uf.out.mono ?_⟩;rintro e W1 ⟨GS,(⟨rfl,tq⟩ | ⟨rfl,Ln⟩)⟩
   ·have UG:W1.cell? ⟨b,o,none⟩=some (.int .i64 x):=GS.cell (fun h=>h (.inl YW)) hc
    have uC:W1.frozen? ⟨b,o,none⟩=false:=by
     rw [World.frozen?_of_block (GS.block b (zf wr _ hc) (fun h=>h (.inl YW)))];exact hf
    have eH:Kl W1:=fun j hj=>GS.cell (fun h=>h (.inr rfl)) (ht.out j hj)
    have Ce:AM G W1 (W1.setCell ⟨b,o,none⟩ (.int .i64 ((x&&& (x-1):Nat):Int))):=(AM.refl G W1).setCell (fun _=>YW) _;have eI:=yO A2 (yO GS.size Ce.size);have F8:=zA7 (hJ _ _ _ _ _ tq Ce (fun k h=>.inl h) (fun k h=>yN (YV k h) eI))
    have rT:Hid (Kl (W1.setCell ⟨b,o,none⟩ (.int .i64 ((x&&& (x-1):Nat):Int)))):=zA7 fun j hj=>
     ((AM.refl (fun k=>k=b) W1).setCell (fun _=>rfl) _).cell (fun e=>uP e.symm) (eH j hj)
    have AK:x&&& (x-1)<x:=Nat.lt_of_le_of_lt Nat.and_le_right (by omega);clear Ce eH
    gi_wp2
    rw [xZ x hx FL];have Hm:(W1.setCell ⟨b,o,none⟩ (.int .i64 ((x&&& (x-1):Nat):Int))).cell? ⟨b,o,none⟩=some (.int .i64 ((x&&& (x-1):Nat):Int)):=World.cell?_setCell_same' W1 _ _ (by rw [UG];rfl);refine ⟨⟨_,_,_,_,_,_,_,_,_,_,_,_,⟨i+1,x&&& (x-1),eI,by omega,CS,zA7 ?_,F8,Hm,?_,rT⟩,rfl⟩,?_⟩
    ·rw [←List.drop_drop,uJ.out];rfl
    ·rw [World.frozen?_setCell];exact uC
    ·unfold bE;rw [Hm,hc]
     show ((x&&& (x-1):Nat):Int).toNat<(x:Int).toNat
     omega
   ·gi_wp2
    refine bodyPost_ret (results_none rfl _ _ _) rfl ?_;exact ⟨⟨_,rfl⟩,.inr ⟨G,Ln⟩⟩
def BO (x:Int):List Int:=(D1 x.toNat).map fun (s:Nat)=>(s:Int)
theorem vq (x:Int):(BO x).map Bs=(D1 x.toNat).map Rv:=by
 unfold BO;rw [List.map_map];rfl
theorem j2 {x:Int} (hx:(0:Int)<=x/\ x<9223372036854775808) (w:World) (b o:Nat) (u:Value) (hg:GG.gi w) (F7:GG.ng<=b) (hb: ∃ cs t,w.heap[b]? =some (.cells cs t (0,0))) (hc:w.cell? ⟨b,o,none⟩=some u) (hr:u= .int .i64 x):
 H9 Tryz.prog 69 #[.pointer (some ⟨b,o,none⟩)] ((BO x).map Bs) (fun k=>k=b) (fun k=>k=1) w:=by
 rw [vq];obtain ⟨cs,t,hb⟩:=hb;have F7:2<=b:=F7;refine j3 x.toNat b o w (by omega) hg.1 ?_ ?_ (by omega)
 ·rw [hc,hr];congr 2;omega
 ·unfold World.frozen?;simp [hb]
end Go.Proofs.YtekkngkphejfcaaGreatDoor
namespace Go.Proofs.YtekkngkphejfcaaGreatDoor
open Go.RowKit
theorem ES.iterOf {P:Program} {Γ:Au} {f gf:Nat} {ds:List DV} {c:Nat -> DV} {d:DV} {encs:List (Array Value)} {Rd:Nat -> Prop} (h0:ES P Γ f ds [] (.fn gf 1 c) [some (.cells [d])] true) (hc:c 0= .ref 0 0) (E6:ds.all GQ=true)
 (eg: ∀ args W,(callFunc gf args).run P W= .ok (.enter gf args) W)
 (px: ∀ (w:World) (b o:Nat) (u:Value),Γ.gi w -> Γ.ng<=b -> (∃ cs t,w.heap[b]? =some (.cells cs t (0,0))) -> w.cell? ⟨b,o,none⟩=some u -> AJ (fun _=>False) w d [] u -> H9 P gf #[.pointer (some ⟨b,o,none⟩)] encs (fun k=>k=b) Rd w)
 (hd:My d=true) (Ih: ∀ b,Rd b -> b<Γ.ng) (h:DH):ES P Γ f ds h (.it h.length) (h++[some (.iter encs)]) true:=by
 refine ⟨h0.1,fun N ρ w args HR CK=>?_⟩;refine (h0.2 (MS N h ρ) [] w args (NO (fun b hb=>HR.lt2 hb) HR.gi) ⟨CK.1,fun i hi=>?_⟩).mono ?_
 ·have hx:=M3 (yL.1 E6 (ds.getD i .any) (by simp [hi]));exact AJ.out _ (C0 (fun b hb=>MT.1 hb) []) (hx _ _ _ _ (CK.2 i hi))
 ·rintro e w' ⟨v,rfl,⟨⟨ρ',g1,g2,g3,g4⟩,g5⟩⟩;have hE:=g5 rfl;obtain ⟨p,hp,Cn⟩:=g1.obj 0 _ rfl;have Cn:AS w' p 1 _:=Cn;have hf: ∀ b,p.foot b -> w.heap.size<=b:=fun b hb=>(g3.grow b ⟨0,_,p,rfl,hp,hb⟩).resolve_left fun ⟨k,o',p',q1,_⟩=>by simp at q1
  obtain ⟨lb,hv,hl,T9⟩:=g2;obtain ⟨u,hu,hr⟩:=T9 0 (by omega);rw [hc] at hr;obtain ⟨p',A6,Gz⟩:=hr;have ep:p'=p:=yK (A6.symm.trans hp);subst ep
  have tj:lb= #[.pointer (some ⟨p'.blk,p'.off,none⟩)]:=by
   apply Array.ext
   ·simp [hl]
   ·intro i h1 h2;have:i=0:=by omega
    subst this;have:=yE.1 hu;obtain ⟨_,e⟩:=this;rw [e,Gz];rfl
  subst tj;obtain ⟨u2,c1,c2⟩:=AS.cell Cn (j:=0) (by omega);have Dc:p'.foot=fun b=>b=p'.blk:=Cn.1
  have F7:Γ.ng<=w.heap.size:=Γ.lo _ HR.gi;have C1:=g1.cel 0 _ p' p'.blk rfl hp (by rw [Dc]);refine ⟨v,rfl,⟨⟨ρ++[{ p' with val:=v }],HR.snoc hE (fun b hb=>⟨hf b hb,(g1.cel 0 _ p' b rfl hp hb).2.2⟩) ?_,⟨{ p' with val:=v },by rw [←HR.len];simp,rfl⟩,A8.snoc HR hE hf,fun _ _ h=>De h⟩,g5⟩⟩;obtain ⟨_,cs,t,Dd,_⟩:=Cn;refine ⟨gf,_,Rd,⟨hv,eg⟩,?_,fun b hb=>?_,fun b hb=>?_⟩
  ·show H9 P gf _ encs p'.foot Rd w'
   rw [Dc];refine px w' _ _ u2 g1.gi C1.1 ⟨cs,t,Dd⟩ (by simpa using c1) ?_;exact AJ.out _ (C0 (fun b hb=>hb.elim) []) (WM hd c2)
  ·have ER:=Ih b hb;refine ⟨fun hm=>?_,yN (yN ER F7) hE.size⟩;rcases hm with hm | hm
   ·have:=(HR.nlt b hm).2;omega
   ·rcases MO.snoc HR hm with hm | hm
    ·have:=HR.low hm;omega
    ·have:=hf b hm;omega
  ·obtain ⟨_,_,c,t,z,h4⟩:=g1.cel 0 _ p' b rfl hp hb;exact (yE.1 h4).1
end Go.Proofs.YtekkngkphejfcaaGreatDoor
namespace Go.Proofs.YtekkngkphejfcaaGreatDoor
open Go.RowKit
set_option maxRecDepth 100000
set_option maxHeartbeats 40000000
inductive Uq where
 | l1 (x7:Int)
def Q5 (n:Nat) (self:Uq -> Option Bool) (sets:List Int) (x7:Int):Option Bool:=
 bif (decide (x7<(sets.length:Int))) then
  if 0<=x7/\ x7<(sets.length:Int) then
   bif ((sets.getD ((x7).toNat) 0)==0) then
    some true
   else
    if AH (x7+1) then
     self (.l1 (x7+1))
    else none
  else none
 else
  some false
def gx (n:Nat) (self:Uq -> Option Bool) (sets:List Int):Option Bool:=
 self (.l1 0)
def Nz (sets:List Int):Nat -> Uq -> Option Bool
 | 0,_=>none
 | n+1,.l1 x7=>Q5 n (Nz sets n) sets x7
def Ur (n:Nat) (sets:List Int):Option Bool:=gx n (Nz sets n) sets
def wJ (n B:Nat) (N:Yd 0) (sets:List Int) (r:Bool):Uq -> Prop
 | .l1 x7=>∀ m0:Nat,n<=m0 -> TW B N (FQ Tryz.f72 0 (.bool r) []) (Ai m0 (Ap (AZ Tryz.f72) 0 [])) ⟨AL 14 [(5,.ints sets),(6,.i (sets.length:Int)),(7,.i x7)],[]⟩
theorem wK (B:Nat) (N:Yd 0) (sets:List Int):Al (Nz sets) (wJ · B N sets):=ia (fun _=>rfl) fun n AF pt r h=>by
 cases pt
 case l1 x7=>
  intro m0 AC;refine rd AC fun m0 AC=>?_
  revert r;apply gO;exact bi 8 (gi (bi 12 (lE AE [2] []) (gw 13 (lG AE [] (AF _ _ · m0 AC))))) (lE AE [2] [])
theorem wH {n:Nat} {sets:List Int} {r:Bool} (h:Ur n sets=some r):EQ 72 [.ints sets] [] (.bool r) [] true:=by
 refine ot Tryz.func72 fun B N=>?_
 revert r;apply gO;exact lN AE [] ((wK B N sets n) _ _ · n Nat.le.refl)
def XA (n:Nat) (pos:List Int):Option Bool:=
 (Ur n pos).bind fun y1=>
  some y1
def Gw (n:Nat) (pos:List Int):Option Bool:=XA n pos
theorem NG {n:Nat} {pos:List Int} {r:Bool} (h:Gw n pos=some r):EQ 51 [.ints pos] [] (.bool r) [] true:=by
 unfold Gw XA at h;refine ot Tryz.func51 fun B N=>?_
 revert r;apply gO;exact cf wH [] fun _=>lE AE [2] []
inductive Su where
 | l1 (x20:Int)
def Pa (n:Nat) (self:Su -> Option Int) (q:AA) (pos:List Int) (x20:Int):Option Int:=
 bif (decide (x20<(pos.length:Int))) then
  if 0<=x20/\ x20<(pos.length:Int) then
   bif (decide ((pos.getD ((x20).toNat) 0)<0)) then
    some 250
   else
    if 0<=q.symbols/\ q.symbols<=(IntKind.i64.bits:Int) then
     bif (decide ((pos.getD ((x20).toNat) 0)>=(IntKind.i64.wrap (1*2 ^ (q.symbols).toNat)))) then
      some 250
     else
      if AH (x20+1) then
       self (.l1 (x20+1))
      else none
    else none
  else none
 else
  some 0
def cO (n:Nat) (self:Su -> Option Int) (q:AA) (pos:List Int):Option Int:=
 (valid n q).bind fun y1=>
  bif (y1 != 0) then
   some y1
  else
   bif ((pos.length:Int) != q.cells) then
    some 250
   else
    self (.l1 0)
def LM (q:AA) (pos:List Int):Nat -> Su -> Option Int
 | 0,_=>none
 | n+1,.l1 x20=>Pa n (LM q pos n) q pos x20
def LN (n:Nat) (q:AA) (pos:List Int):Option Int:=cO n (LM q pos n) q pos
def oF (n B:Nat) (N:Yd 0) (q:AA) (pos:List Int) (r:Int):Su -> Prop
 | .l1 x20=>∀ m0:Nat,n<=m0 -> TW B N (FQ Tryz.f44 0 (.i r) []) (Ai m0 (Ap (AZ Tryz.f44) 0 [])) ⟨AL 34 [(2,.ref 0 0),(18,.ints pos),(19,.i (pos.length:Int)),(20,.i x20)],[some (.cells (AD q))]⟩
theorem oG (B:Nat) (N:Yd 0) (q:AA) (pos:List Int):Al (LM q pos) (oF · B N q pos):=ia (fun _=>rfl) fun n AF pt r h=>by
 cases pt
 case l1 x20=>
  intro m0 AC;refine rd AC fun m0 AC=>?_
  revert r;apply gO;exact bi 21 (gi (bi 25 (lE AE [4] []) (gi (bi 31 (lE AE [4] []) (gw 33 (lG AE [0] (AF _ _ · m0 AC))))))) (lE AE [4] [])
theorem WP {n:Nat} {q:AA} {pos:List Int} {r:Int} (h:LN n q pos=some r):EQ 44 [.agg 5 (L1 (AD q)),.ints pos] [] (.i r) [] true:=by
 refine ot Tryz.func44 fun B N=>?_
 revert r;apply gO;exact cf Zv [some (.cells (AD q))] fun _=>bi 11 (lE AE [4] []) (bi 17 (lE AE [4] []) (lN AE [0] ((oG B N q pos n) _ _ · n Nat.le.refl)))
def iD (n:Nat) (s_:List Int):Option ((List Int)):=
 if 0<s_.length/\ ((True)/\ (0=0/\ 0=([]:List Int).length)/\ ([]:List Int).length+s_.length<=BT) then
  if ([]:List Int).length+s_.length=(([]:List Int)++s_).length then
   some (([]:List Int)++s_)
  else none
 else none
def U0 (n:Nat) (s_:List Int):Option ((List Int)):=iD n s_
theorem wl {n:Nat} {s_:List Int} {r:(List Int)} (h:U0 n s_=some r):EQ 66 [.ints s_] [] (.msl 0 1 0 r.length) [some (.ints r)] true:=by
 refine ot Tryz.func66 fun B N=>?_
 revert r;apply gO;exact gc (gi (gi (gn fun g2=>lF fun p=>el AE [2] [1] p [] H0 [.msl 0 1 0 (([]:List Int).length+s_.length)] (AN.mslN g2))))
def Yy (n:Nat) (s_:List Bool):Option ((List Bool)):=
 if 0<s_.length/\ ((True)/\ (0=0/\ 0=([]:List Bool).length)/\ ([]:List Bool).length+s_.length<=BT) then
  if ([]:List Bool).length+s_.length=(([]:List Bool)++s_).length then
   some (([]:List Bool)++s_)
  else none
 else none
def MD (n:Nat) (s_:List Bool):Option ((List Bool)):=Yy n s_
theorem iE {n:Nat} {s_:List Bool} {r:(List Bool)} (h:MD n s_=some r):EQ 109 [.bools s_] [] (.msl 0 1 0 r.length) [some (.bools r)] true:=by
 refine ot Tryz.func109 fun B N=>?_
 revert r;apply gO;exact gc (gi (gi (gn fun g2=>lF fun p=>el AE [2] [1] p [] H0 [.msl 0 1 0 (([]:List Bool).length+s_.length)] (AN.mslN g2))))
def Yz (n:Nat) (q:AA) (i:Int) (pos:List Int):Option Int:=
 (Lf n q i).bind fun y1=>
  bif (y1.2 != 0) then
   some y1.2
  else
   (LN n q pos).bind fun y2=>
    some y2
def N7 (n:Nat) (q:AA) (i:Int) (pos:List Int):Option Int:=Yz n q i pos
theorem wm {n:Nat} {q:AA} {i:Int} {pos:List Int} {r:Int} (h:N7 n q i pos=some r):EQ 35 [.agg 5 (L1 (AD q)),.i i,.ints pos] [] (.i r) [] true:=by
 unfold N7 Yz at h;refine ot Tryz.func35 fun B N=>?_
 revert r;apply gO;exact cf Wr [some (.cells (AD q))] fun _=>bi 16 (lE AE [6] []) (cf WP [some (.cells (AD q))] fun _=>lE AE [6] [])
inductive UL where
 | l1 (CG:Int)
def Qm (n:Nat) (self:UL -> Option Int) (g_:List (List Int)) (sets:List (List Bool)) (CG:Int):Option Int:=
 bif (decide (CG<(sets.length:Int))) then
  if 0<=CG/\ CG<(sets.length:Int) then
   bif ((((sets.getD ((CG).toNat) []).length:Nat):Int) != (g_.length:Int)) then
    some 1
   else
    if AH (CG+1) then
     self (.l1 (CG+1))
    else none
  else none
 else
  some 0
def fu (n:Nat) (self:UL -> Option Int) (g_:List (List Int)) (sets:List (List Bool)):Option Int:=
 (Qo n g_).bind fun y1=>
  bif (y1 != 0) then
   some y1
  else
   self (.l1 0)
def Nc (g_:List (List Int)) (sets:List (List Bool)):Nat -> UL -> Option Int
 | 0,_=>none
 | n+1,.l1 CG=>Qm n (Nc g_ sets n) g_ sets CG
def KR (n:Nat) (g_:List (List Int)) (sets:List (List Bool)):Option Int:=fu n (Nc g_ sets n) g_ sets
def uy (n B:Nat) (N:Yd 0) (g_:List (List Int)) (sets:List (List Bool)) (r:Int):UL -> Prop
 | .l1 CG=>∀ m0:Nat,n<=m0 -> TW B N (FQ Tryz.f111 0 (.i r) []) (Ai m0 (Ap (AZ Tryz.f111) 0 [])) ⟨AL 25 [(0,.sl 1 g_.length (Ak BD g_)),(13,.sl 1 sets.length (Ak U5 sets)),(14,.i (sets.length:Int)),(15,.i CG)],[]⟩
theorem uz (B:Nat) (N:Yd 0) (g_:List (List Int)) (sets:List (List Bool)):Al (Nc g_ sets) (uy · B N g_ sets):=ia (fun _=>rfl) fun n AF pt r h=>by
 cases pt
 case l1 CG=>
  intro m0 AC;refine rd AC fun m0 AC=>?_
  revert r;apply gO;exact bi 16 (gi (bi 23 (lE AE [4] []) (gw 24 (lG AE [] (AF _ _ · m0 AC))))) (lE AE [4] [])
theorem fq {n:Nat} {g_:List (List Int)} {sets:List (List Bool)} {r:Int} (h:KR n g_ sets=some r):EQ 111 [.sl 1 g_.length (Ak BD g_),.sl 1 sets.length (Ak U5 sets)] [] (.i r) [] true:=by
 refine ot Tryz.func111 fun B N=>?_
 revert r;apply gO;exact cf f8 [] fun _=>bi 11 (lE AE [4] []) (lN AE [] ((uz B N g_ sets n) _ _ · n Nat.le.refl))
end Go.Proofs.YtekkngkphejfcaaGreatDoor
namespace Go.Proofs.YtekkngkphejfcaaGreatDoor
open Go.RowKit
set_option maxRecDepth 100000
set_option maxHeartbeats 40000000
theorem lh:Aj (BA Tryz.f82 0) [] (List.range 18) [18]:=by unfold Aj;kernel_rfl
def kV:BU:=fun i=>match i with
 | 0=>.ord [] (List.range 18) [18]
 | _=>.no
def Wn (n:Nat) (cell ss:Int) (c:AB) (q:AA) (pos:List Int) (ln:Nat) (lost:List Int):Option ((List Int)):=
 if (0<=cell/\ cell<(ln:Int))/\ 0+((cell).toNat)<lost.length/\ (0<=cell/\ cell<(pos.length:Int)) then
  some (lost.set (0+((cell).toNat)) (bits .or .i64 (lost.getD (0+((cell).toNat)) 0) (bits .and .i64 (pos.getD ((cell).toNat) 0) ss)))
 else none
def Cv (n:Nat) (cell ss:Int) (c:AB) (q:AA) (pos:List Int) (ln:Nat) (lost:List Int):Option ((List Int)):=Wn n cell ss c q pos ln lost
theorem FJ {n:Nat} {cell ss:Int} {c:AB} {q:AA} {pos:List Int} {ln:Nat} {lost:List Int} {r:(List Int)} (h:Cv n cell ss c q pos ln lost=some r):EQ 82 [.ref 0 0,.i cell,.i ss] [some (.cells (AG c++AD q++[.ints pos,.msl 1 1 0 ln])),some (.ints lost)] (.tup 0 (fun j=>([]:List DV).getD j .any)) [some (.cells (AG c++AD q++[.ints pos,.msl 1 1 0 ln])),some (.ints r)] false:=by
 refine ot Tryz.func82 fun B N=>?_
 revert r;apply gO;exact jg lh (gc (gn fun g0=>jg g0 (gc (gn fun g1=>jg g1 (gi (jg g0 (jg g1 (lE kV [] [0,1]))))))))
theorem lX:Aj (BA Tryz.f83 0) [] (List.range 22) [22]:=by unfold Aj;kernel_rfl
def kU:BU:=fun i=>match i with
 | 0=>.ord [] (List.range 22) [22]
 | _=>.no
def WZ (n:Nat) (cell:Int) (c:AB) (q:AA) (pos:List Int) (ln:Nat) (lost:List Int):Option ((List Int)):=
 if (0<=cell/\ cell<(ln:Int))/\ 0+((cell).toNat)<lost.length/\ (0<=cell/\ cell<(pos.length:Int)) then
  some (lost.set (0+((cell).toNat)) (bits .or .i64 (lost.getD (0+((cell).toNat)) 0) (bits .andNot .i64 (pos.getD ((cell).toNat) 0) c.set)))
 else none
def Fg (n:Nat) (cell:Int) (c:AB) (q:AA) (pos:List Int) (ln:Nat) (lost:List Int):Option ((List Int)):=WZ n cell c q pos ln lost
theorem J4 {n:Nat} {cell:Int} {c:AB} {q:AA} {pos:List Int} {ln:Nat} {lost:List Int} {r:(List Int)} (h:Fg n cell c q pos ln lost=some r):EQ 83 [.ref 0 0,.i cell] [some (.cells (AG c++AD q++[.ints pos,.msl 1 1 0 ln])),some (.ints lost)] (.tup 0 (fun j=>([]:List DV).getD j .any)) [some (.cells (AG c++AD q++[.ints pos,.msl 1 1 0 ln])),some (.ints r)] false:=by
 refine ot Tryz.func83 fun B N=>?_
 revert r;apply gO;exact jg lX (gc (gn fun g0=>jg g0 (gc (gn fun g1=>jg g1 (gi (jg g0 (jg g1 (lE kU [] [0,1]))))))))
inductive Q4 where
 | l1 (x3 x4 As:Int)
 | l2 (x3 x4 Br:Int) (o1:List Int)
def Q3 (n:Nat) (self:Q4 -> Option (Bool×(List Int))) (c:AB) (q:AA) (pos:List Int) (ln:Nat) (lost:List Int) (x3 x4 As:Int):Option (Bool×(List Int)):=
 bif (decide (As<(c.cells.length:Int))) then
  if (0<=As/\ As<(c.cells.length:Int))/\ (0<=(c.cells.getD ((As).toNat) 0)/\ (c.cells.getD ((As).toNat) 0)<(pos.length:Int))/\ AH ((pos.getD ((c.cells.getD ((As).toNat) 0).toNat) 0)-1) then
   bif ((bits .and .i64 (pos.getD ((c.cells.getD ((As).toNat) 0).toNat) 0) ((pos.getD ((c.cells.getD ((As).toNat) 0).toNat) 0)-1))==0) then
    if AH (As+1) then
     self (.l1 (bits .or .i64 x3 (pos.getD ((c.cells.getD ((As).toNat) 0).toNat) 0)) (bits .or .i64 x4 (bits .and .i64 x3 (pos.getD ((c.cells.getD ((As).toNat) 0).toNat) 0))) (As+1))
    else none
   else
    if AH (As+1) then
     self (.l1 x3 x4 (As+1))
    else none
  else none
 else
  self (.l2 x3 x4 0 lost)
def Q2 (n:Nat) (self:Q4 -> Option (Bool×(List Int))) (c:AB) (q:AA) (pos:List Int) (ln:Nat) (lost:List Int) (x3 x4 Br:Int) (o1:List Int):Option (Bool×(List Int)):=
 bif (decide (Br<(c.cells.length:Int))) then
  if (0<=Br/\ Br<(c.cells.length:Int))/\ (0<=(c.cells.getD ((Br).toNat) 0)/\ (c.cells.getD ((Br).toNat) 0)<(pos.length:Int))/\ AH ((pos.getD ((c.cells.getD ((Br).toNat) 0).toNat) 0)-1) then
   bif ((bits .and .i64 (pos.getD ((c.cells.getD ((Br).toNat) 0).toNat) 0) ((pos.getD ((c.cells.getD ((Br).toNat) 0).toNat) 0)-1))==0) then
    (Cv n (c.cells.getD ((Br).toNat) 0) (bits .or .i64 (bits .andNot .i64 x3 (pos.getD ((c.cells.getD ((Br).toNat) 0).toNat) 0)) x4) c q pos ln o1).bind fun y1=>
     if AH (Br+1) then
      self (.l2 x3 x4 (Br+1) y1)
     else none
   else
    (Cv n (c.cells.getD ((Br).toNat) 0) x3 c q pos ln o1).bind fun y1=>
     if AH (Br+1) then
      self (.l2 x3 x4 (Br+1) y1)
     else none
  else none
 else
  some (true,o1)
def gv (n:Nat) (self:Q4 -> Option (Bool×(List Int))) (c:AB) (q:AA) (pos:List Int) (ln:Nat) (lost:List Int):Option (Bool×(List Int)):=
 self (.l1 0 0 0)
def Ik (c:AB) (q:AA) (pos:List Int) (ln:Nat) (lost:List Int):Nat -> Q4 -> Option (Bool×(List Int))
 | 0,_=>none
 | n+1,.l1 x3 x4 As=>Q3 n (Ik c q pos ln lost n) c q pos ln lost x3 x4 As
 | n+1,.l2 x3 x4 Br o1=>Q2 n (Ik c q pos ln lost n) c q pos ln lost x3 x4 Br o1
def Nx (n:Nat) (c:AB) (q:AA) (pos:List Int) (ln:Nat) (lost:List Int):Option (Bool×(List Int)):=gv n (Ik c q pos ln lost n) c q pos ln lost
def wE (n B:Nat) (N:Yd 2) (c:AB) (q:AA) (pos:List Int) (ln:Nat) (lost:List Int) (r:Bool×(List Int)):Q4 -> Prop
 | .l1 x3 x4 As=>∀ m0:Nat,n<=m0 -> TW B N (FQ Tryz.f57 2 (.bool r.1) [some (.cells (AG c++AD q++[.ints pos,.msl 1 1 0 ln])),some (.ints r.2)]) (Ai m0 (Ap (AZ Tryz.f57) 0 [])) ⟨AL 77 [(0,.ref 0 0),(3,.i x3),(4,.i x4),(15,.ints c.cells),(16,.i (c.cells.length:Int)),(17,.i As)],[some (.cells (AG c++AD q++[.ints pos,.msl 1 1 0 ln])),some (.ints lost)]⟩
 | .l2 x3 x4 Br o1=>∀ m0:Nat,n<=m0 -> TW B N (FQ Tryz.f57 2 (.bool r.1) [some (.cells (AG c++AD q++[.ints pos,.msl 1 1 0 ln])),some (.ints r.2)]) (Ai m0 (Ap (AZ Tryz.f57) 2 [])) ⟨AL 77 [(0,.ref 0 0),(3,.i x3),(4,.i x4),(46,.ints c.cells),(47,.i (c.cells.length:Int)),(48,.i Br)],[some (.cells (AG c++AD q++[.ints pos,.msl 1 1 0 ln])),some (.ints o1)]⟩
theorem wF (B:Nat) (N:Yd 2) (c:AB) (q:AA) (pos:List Int) (ln:Nat) (lost:List Int):Al (Ik c q pos ln lost) (wE · B N c q pos ln lost):=ia (fun _=>rfl) fun n AF pt r h=>by
 cases pt
 case l1 x3 x4 As=>
  intro m0 AC;refine rd AC fun m0 AC=>?_
  revert r;apply gO;exact bi 18 (gc (gi (gc (gi (gw 30 (bi 32 (gw 41 (lG AE [0,1] (AF _ _ · m0 AC))) (gw 41 (lG AE [0,1] (AF _ _ · m0 AC))))))))) (lN AE [0,1] (AF _ _ · n Nat.le.refl))
 case l2 x3 x4 Br o1=>
  intro m0 AC;refine rd AC fun m0 AC=>?_
  revert r;apply gO;exact bi 49 (gc (gi (gc (gi (gw 61 (bi 63 (ce FJ [0,1] [some (.cells (AG c++AD q++[.ints pos,.msl 1 1 0 ln])),some (.ints o1)] fun _=>gw 76 (lG AE [0,1] (AF _ _ · m0 AC))) (ce FJ [0,1] [some (.cells (AG c++AD q++[.ints pos,.msl 1 1 0 ln])),some (.ints o1)] fun _=>gw 76 (lG AE [0,1] (AF _ _ · m0 AC))))))))) (lE AE [2] [0,1])
theorem wD {n:Nat} {c:AB} {q:AA} {pos:List Int} {ln:Nat} {lost:List Int} {r:Bool×(List Int)} (h:Nx n c q pos ln lost=some r):EQ 57 [.ref 0 0] [some (.cells (AG c++AD q++[.ints pos,.msl 1 1 0 ln])),some (.ints lost)] (.bool r.1) [some (.cells (AG c++AD q++[.ints pos,.msl 1 1 0 ln])),some (.ints r.2)] false:=by
 refine ot Tryz.func57 fun B N=>?_
 revert r;apply gO;exact lN AE [0,1] ((wF B N c q pos ln lost n) _ _ · n Nat.le.refl)
theorem lw:Aj (BA Tryz.f58 5) [] (List.range 15) []:=by unfold Aj;kernel_rfl
theorem lv:Aj (BA Tryz.f58 8) [] (List.range 15) []:=by unfold Aj;kernel_rfl
theorem lx:Aj (BA Tryz.f58 16) [] (List.range 23) []:=by unfold Aj;kernel_rfl
theorem Vy:Aj (BA Tryz.f58 18) [] (List.range 23) []:=by unfold Aj;kernel_rfl
def Eu:BU:=fun i=>match i with
 | 5=>.ord [] (List.range 15) []
 | 8=>.ord [] (List.range 15) []
 | 16=>.ord [] (List.range 23) []
 | 18=>.ord [] (List.range 23) []
 | _=>.no
inductive RA where
 | l1 (x3 x4 CG:Int)
 | l2 (x3 x4 Bu:Int) (o1:List Int)
def Q9 (n:Nat) (self:RA -> Option (Bool×(List Int))) (c:AB) (q:AA) (pos:List Int) (ln:Nat) (lost:List Int) (x3 x4 CG:Int):Option (Bool×(List Int)):=
 bif (decide (CG<(c.cells.length:Int))) then
  if (0<=CG/\ CG<(c.cells.length:Int))/\ (0<=(c.cells.getD ((CG).toNat) 0)/\ (c.cells.getD ((CG).toNat) 0)<(pos.length:Int)) then
   bif ((bits .andNot .i64 (pos.getD ((c.cells.getD ((CG).toNat) 0).toNat) 0) c.set)==0) then
    if AH (x3+1)/\ AH (x4+1)/\ AH (CG+1) then
     self (.l1 (x3+1) (x4+1) (CG+1))
    else none
   else
    bif ((bits .and .i64 (pos.getD ((c.cells.getD ((CG).toNat) 0).toNat) 0) c.set) != 0) then
     if AH (x4+1)/\ AH (CG+1) then
      self (.l1 x3 (x4+1) (CG+1))
     else none
    else
     if AH (CG+1) then
      self (.l1 x3 x4 (CG+1))
     else none
  else none
 else
  bif (decide (x3>c.hi)) then
   some (false,lost)
  else
   bif (decide (x4<c.lo)) then
    some (false,lost)
   else
    self (.l2 x3 x4 0 lost)
def Q8 (n:Nat) (self:RA -> Option (Bool×(List Int))) (c:AB) (q:AA) (pos:List Int) (ln:Nat) (lost:List Int) (x3 x4 Bu:Int) (o1:List Int):Option (Bool×(List Int)):=
 bif (decide (Bu<(c.cells.length:Int))) then
  if 0<=Bu/\ Bu<(c.cells.length:Int) then
   bif (x3==c.hi) then
    if 0<=(c.cells.getD ((Bu).toNat) 0)/\ (c.cells.getD ((Bu).toNat) 0)<(pos.length:Int) then
     bif ((bits .andNot .i64 (pos.getD ((c.cells.getD ((Bu).toNat) 0).toNat) 0) c.set) != 0) then
      (Cv n (c.cells.getD ((Bu).toNat) 0) c.set c q pos ln o1).bind fun y1=>
       bif (x4==c.lo) then
        bif ((bits .and .i64 (pos.getD ((c.cells.getD ((Bu).toNat) 0).toNat) 0) c.set) != 0) then
         (Fg n (c.cells.getD ((Bu).toNat) 0) c q pos ln y1).bind fun y2=>
          if AH (Bu+1) then
           self (.l2 x3 x4 (Bu+1) y2)
          else none
        else
         if AH (Bu+1) then
          self (.l2 x3 x4 (Bu+1) y1)
         else none
       else
        if AH (Bu+1) then
         self (.l2 x3 x4 (Bu+1) y1)
        else none
     else
      bif (x4==c.lo) then
       bif ((bits .and .i64 (pos.getD ((c.cells.getD ((Bu).toNat) 0).toNat) 0) c.set) != 0) then
        (Fg n (c.cells.getD ((Bu).toNat) 0) c q pos ln o1).bind fun y1=>
         if AH (Bu+1) then
          self (.l2 x3 x4 (Bu+1) y1)
         else none
       else
        if AH (Bu+1) then
         self (.l2 x3 x4 (Bu+1) o1)
        else none
      else
       if AH (Bu+1) then
        self (.l2 x3 x4 (Bu+1) o1)
       else none
    else none
   else
    bif (x4==c.lo) then
     if 0<=(c.cells.getD ((Bu).toNat) 0)/\ (c.cells.getD ((Bu).toNat) 0)<(pos.length:Int) then
      bif ((bits .and .i64 (pos.getD ((c.cells.getD ((Bu).toNat) 0).toNat) 0) c.set) != 0) then
       (Fg n (c.cells.getD ((Bu).toNat) 0) c q pos ln o1).bind fun y1=>
        if AH (Bu+1) then
         self (.l2 x3 x4 (Bu+1) y1)
        else none
      else
       if AH (Bu+1) then
        self (.l2 x3 x4 (Bu+1) o1)
       else none
     else none
    else
     if AH (Bu+1) then
      self (.l2 x3 x4 (Bu+1) o1)
     else none
  else none
 else
  some (true,o1)
def wQ (n:Nat) (self:RA -> Option (Bool×(List Int))) (c:AB) (q:AA) (pos:List Int) (ln:Nat) (lost:List Int):Option (Bool×(List Int)):=
 self (.l1 0 0 0)
def Hw (c:AB) (q:AA) (pos:List Int) (ln:Nat) (lost:List Int):Nat -> RA -> Option (Bool×(List Int))
 | 0,_=>none
 | n+1,.l1 x3 x4 CG=>Q9 n (Hw c q pos ln lost n) c q pos ln lost x3 x4 CG
 | n+1,.l2 x3 x4 Bu o1=>Q8 n (Hw c q pos ln lost n) c q pos ln lost x3 x4 Bu o1
def N4 (n:Nat) (c:AB) (q:AA) (pos:List Int) (ln:Nat) (lost:List Int):Option (Bool×(List Int)):=wQ n (Hw c q pos ln lost n) c q pos ln lost
def wR (n B:Nat) (N:Yd 2) (c:AB) (q:AA) (pos:List Int) (ln:Nat) (lost:List Int) (r:Bool×(List Int)):RA -> Prop
 | .l1 x3 x4 CG=>∀ m0:Nat,n<=m0 -> TW B N (FQ Tryz.f58 2 (.bool r.1) [some (.cells (AG c++AD q++[.ints pos,.msl 1 1 0 ln])),some (.ints r.2)]) (Ai m0 (Ap (AZ Tryz.f58) 0 [])) ⟨AL 140 [(0,.ref 0 0),(3,.i x3),(4,.i x4),(13,.ints c.cells),(14,.i (c.cells.length:Int)),(15,.i CG)],[some (.cells (AG c++AD q++[.ints pos,.msl 1 1 0 ln])),some (.ints lost)]⟩
 | .l2 x3 x4 Bu o1=>∀ m0:Nat,n<=m0 -> TW B N (FQ Tryz.f58 2 (.bool r.1) [some (.cells (AG c++AD q++[.ints pos,.msl 1 1 0 ln])),some (.ints r.2)]) (Ai m0 (Ap (AZ Tryz.f58) 3 [])) ⟨AL 140 [(0,.ref 0 0),(3,.i x3),(4,.i x4),(76,.ints c.cells),(77,.i (c.cells.length:Int)),(78,.i Bu)],[some (.cells (AG c++AD q++[.ints pos,.msl 1 1 0 ln])),some (.ints o1)]⟩
theorem wS (B:Nat) (N:Yd 2) (c:AB) (q:AA) (pos:List Int) (ln:Nat) (lost:List Int):Al (Hw c q pos ln lost) (wR · B N c q pos ln lost):=ia (fun _=>rfl) fun n AF pt r h=>by
 cases pt
 case l1 x3 x4 CG=>
  intro m0 AC;refine rd AC fun m0 AC=>?_
  revert r;apply gO;exact bi 16 (gc (gi (jg lw (gn fun g1=>jg g1 (bi 33 (gc (gw 35 (gc (gw 37 (gw 55 (lG Eu [0,1] (AF _ _ · m0 AC))))))) (jg lv (jg g1 (bi 52 (gc (gw 54 (gw 55 (lG Eu [0,1] (AF _ _ · m0 AC))))) (gw 55 (lG Eu [0,1] (AF _ _ · m0 AC))))))))))) (bi 62 (lE Eu [2] [0,1]) (bi 70 (lE Eu [2] [0,1]) (lN Eu [0,1] (AF _ _ · n Nat.le.refl))))
 case l2 x3 x4 Bu o1=>
  intro m0 AC;refine rd AC fun m0 AC=>?_
  revert r;apply gO;exact bi 79 (gi (jg lx (bi 88 (gn fun g1=>jg g1 (bi 103 (ce FJ [0,1] [some (.cells (AG c++AD q++[.ints pos,.msl 1 1 0 ln])),some (.ints o1)] fun y1=>jg Vy (bi 119 (jg g1 (bi 134 (ce J4 [0,1] [some (.cells (AG c++AD q++[.ints pos,.msl 1 1 0 ln])),some (.ints y1)] fun _=>gw 139 (lG Eu [0,1] (AF _ _ · m0 AC))) (gw 139 (lG Eu [0,1] (AF _ _ · m0 AC))))) (gw 139 (lG Eu [0,1] (AF _ _ · m0 AC))))) (jg Vy (bi 119 (jg g1 (bi 134 (ce J4 [0,1] [some (.cells (AG c++AD q++[.ints pos,.msl 1 1 0 ln])),some (.ints o1)] fun _=>gw 139 (lG Eu [0,1] (AF _ _ · m0 AC))) (gw 139 (lG Eu [0,1] (AF _ _ · m0 AC))))) (gw 139 (lG Eu [0,1] (AF _ _ · m0 AC))))))) (jg Vy (bi 119 (gi (bi 134 (ce J4 [0,1] [some (.cells (AG c++AD q++[.ints pos,.msl 1 1 0 ln])),some (.ints o1)] fun _=>gw 139 (lG Eu [0,1] (AF _ _ · m0 AC))) (gw 139 (lG Eu [0,1] (AF _ _ · m0 AC))))) (gw 139 (lG Eu [0,1] (AF _ _ · m0 AC)))))))) (lE Eu [2] [0,1])
theorem wP {n:Nat} {c:AB} {q:AA} {pos:List Int} {ln:Nat} {lost:List Int} {r:Bool×(List Int)} (h:N4 n c q pos ln lost=some r):EQ 58 [.ref 0 0] [some (.cells (AG c++AD q++[.ints pos,.msl 1 1 0 ln])),some (.ints lost)] (.bool r.1) [some (.cells (AG c++AD q++[.ints pos,.msl 1 1 0 ln])),some (.ints r.2)] false:=by
 refine ot Tryz.func58 fun B N=>?_
 revert r;apply gO;exact lN Eu [0,1] ((wS B N c q pos ln lost n) _ _ · n Nat.le.refl)
end Go.Proofs.YtekkngkphejfcaaGreatDoor
namespace Go.Proofs.YtekkngkphejfcaaGreatDoor
open Go.RowKit
set_option maxRecDepth 100000
set_option maxHeartbeats 40000000
def j5 (n:Nat) (Mi:Int):Option Unit:=
 some ()
def j6 (n:Nat) (Mi:Int):Option Unit:=j5 n Mi
theorem j4 {n:Nat} (Mi:Int) {r:Unit} (h:j6 n Mi=some r):EQ 39 [.i Mi] [] (.fn 69 1 (L1 [.ref 0 0])) [some (.cells [.i Mi])] true:=by
 refine ot Tryz.func39 fun B N=>?_
 revert r;apply gO;exact lE AE [2] [0]
theorem Ir {x:Int} (hx:0<=x/\ x<9223372036854775808) (h:DH):EQ 39 [.i x] h (.it h.length) (h++[some (.iter ((BO x).map Bs))]) true:=by
 refine ES.iterOf (j4 (n:=0) x (r:=()) rfl) rfl (by kernel_rfl) (fun args W=>?_) (fun w b o u hg F7 hb hc hr=>j2 hx w b o u hg F7 hb hc hr) rfl (fun b hb=>?_) h
 ·exact gW Tryz.func69 (by kernel_rfl) (by kernel_rfl) args W
 ·rw [hb];decide
def ac:ST:=.rd 0 (.rd 1 (.rd 2 (.rd 3 (.rd 4 (.rd 5 (.rd 6 (.rd 7 (.rd 8 (.rd 9 (.rd 10 (.rd 11 (.rd 12 (.rd 13 (.rd 14 (.rd 15 (.rd 16 (.rd 17 (.rd 18 (.rd 19 (.ef 20 (.ef 21 (.fin [] [4,5]) (.no)) (.no)))))))))))))))))))))
theorem lr:CA (BA Tryz.f84 4) [20] ac:=by unfold CA;kernel_rfl
def ab:ST:=.rd 0 (.rd 1 (.ef 2 (.ef 3 (.fin [] [4,5]) (.no)) (.no)))
theorem lq:CA (BA Tryz.f84 5) [2] ab:=by unfold CA;kernel_rfl
def R9:BU:=fun i=>match i with
 | 4=>.tre [20] ac
 | 5=>.tre [2] ab
 | _=>.no
def tL (c:AB) (q:AA) (pos:List Int) (ln:Nat) (lost:List Int):DH:=[some (.cells (AG c++AD q++[.ints pos,.msl 1 1 0 ln])),some (.ints lost),some (.cells [.ref 0 0]),some (.cells [.i 100]),some (.cells [.i (-1)])]
def tK (c:AB) (q:AA) (pos:List Int) (ln:Nat) (lost:List Int) (ss:Int):DH:=[some (.cells (AG c++AD q++[.ints pos,.msl 1 1 0 ln])),some (.ints lost),some (.cells [.ref 0 0]),some (.cells [.i 100]),some (.cells [.i (-1)]),some (.iter ((BO ss).map Bs))]
def aK (c:AB) (q:AA) (pos:List Int) (ln:Nat) (lost:List Int) (DB DA:Int):St:=⟨(AL 32 [(4,.ref 3 0),(5,.ref 4 0)]),([some (.cells (AG c++AD q++[.ints pos,.msl 1 1 0 ln])),some (.ints lost),some (.cells [.ref 0 0]),some (.cells [.i DB]),some (.cells [.i DA]),none]:DH)⟩
def tJ (c:AB) (q:AA) (pos:List Int) (ln:Nat) (lost:List Int) (FI FH:Int):DH:=[some (.cells (AG c++AD q++[.ints pos,.msl 1 1 0 ln])),some (.ints lost),some (.cells [.ref 0 0]),some (.cells [.i FI]),some (.cells [.i FH]),none]
def aJ (c:AB) (q:AA) (pos:List Int) (ln:Nat) (lost:List Int) (e8 FI FH:Int):St:=⟨(AL 32 [(4,.ref 3 0),(5,.ref 4 0)]),([some (.cells (AG c++AD q++[.ints pos,.msl 1 1 0 ln])),some (.ints lost),some (.cells [.ref 0 0]),some (.cells [.i (if (q.values.getD ((e8).toNat) 0)<FI then (q.values.getD ((e8).toNat) 0) else FI)]),some (.cells [.i (if (q.values.getD ((e8).toNat) 0)>FH then (q.values.getD ((e8).toNat) 0) else FH)]),none]:DH)⟩
inductive Kb where
 | s0 (FI FH:Int)
def gh (c:AB) (q:AA) (pos:List Int) (ln:Nat) (lost:List Int):Kb -> DH
 | .s0 FI FH=>[some (.cells (AG c++AD q++[.ints pos,.msl 1 1 0 ln])),some (.ints lost),some (.cells [.ref 0 0]),some (.cells [.i FI]),some (.cells [.i FH]),none]
def gb (n:Nat) (c:AB) (q:AA) (pos:List Int) (ln:Nat) (lost:List Int) (e8:Int) (FI FH:Int):Option Kb:=
 if 0<=e8/\ e8<(q.values.length:Int) then
  some (.s0 (if (q.values.getD ((e8).toNat) 0)<FI then (q.values.getD ((e8).toNat) 0) else FI) (if (q.values.getD ((e8).toNat) 0)>FH then (q.values.getD ((e8).toNat) 0) else FH))
 else none
def ga (n:Nat) (c:AB) (q:AA) (pos:List Int) (ln:Nat) (lost:List Int) (e8:Int):Kb -> Option Kb
 | .s0 FI FH=>gb n c q pos ln lost e8 FI FH
def Qy (n:Nat) (c:AB) (q:AA) (pos:List Int) (ln:Nat) (lost:List Int) (e8:Int) (s:Kb):Option Kb:=ga n c q pos ln lost e8 s
theorem vp (n:Nat) (c:AB) (q:AA) (pos:List Int) (ln:Nat) (lost:List Int) (l B:Nat) (N:Yd 6) (e8:Int) (s:Kb) (r:Kb) (h:Qy n c q pos ln lost e8 s=some r):TA l B N (C8 6 [] 0 (gh c q pos ln lost r)) Tryz.f84 8 ⟨AL 32 [(2,.ref 2 0),(4,.ref 3 0),(5,.ref 4 0),(8,.it 5),(9,.i e8)],gh c q pos ln lost s⟩:=by
 cases s with
 | s0 FI FH=>
  refine ag R9 [0,1,2,3,4,5] H0 (AL 32 [(2,.ref 2 0),(4,.ref 3 0),(5,.ref 4 0),(6,.i e8)]) (tJ c q pos ln lost FI FH) fun N=>?_
  revert r;apply gO;exact jg lr (gn fun iW=>jg iW (jg iW (jt (jt (jg (Eq.refl (aJ c q pos ln lost e8 FI FH)) (lF fun p=>rr (tg:=[([(20,3)],(aJ c q pos ln lost e8 FI FH))]) R9 [0,1,2,3,4,5] rfl p))))))
def gZ (n:Nat) (ss:Int) (c:AB) (q:AA) (pos:List Int) (ln:Nat) (lost:List Int):Option (Int×Int×(List Int)):=
 if 0<=ss/\ ss<9223372036854775808 then
  (Bz (Qy n c q pos ln lost) (BO ss) (.s0 100 (-1))).bind fun y1=>
   match y1 with
   | .s0 DB DA=>
    some (DB,DA,lost)
 else none
def Qz (n:Nat) (ss:Int) (c:AB) (q:AA) (pos:List Int) (ln:Nat) (lost:List Int):Option (Int×Int×(List Int)):=gZ n ss c q pos ln lost
theorem Nt {n:Nat} {ss:Int} {c:AB} {q:AA} {pos:List Int} {ln:Nat} {lost:List Int} {r:Int×Int×(List Int)} (h:Qz n ss c q pos ln lost=some r):EQ 84 [.ref 0 0,.i ss] [some (.cells (AG c++AD q++[.ints pos,.msl 1 1 0 ln])),some (.ints lost)] (.tup 2 (L1 [.i r.1,.i r.2.1])) [some (.cells (AG c++AD q++[.ints pos,.msl 1 1 0 ln])),some (.ints r.2.2)] false:=by
 refine ot Tryz.func84 fun B N=>?_
 revert r;apply gO
 exact jt (jt (gn fun g0=>jc (Ir g0 (tL c q pos ln lost)) (cn fun y1 A5=>fun p r h=>by
  refine gs R9 [0,1,2,3,4,5] p (GX (AZ Tryz.f84) 8 []) (AL 32 [(2,.ref 2 0),(4,.ref 3 0),(5,.ref 4 0),(8,.it 5)]) (tK c q pos ln lost ss) ?_;refine r0 5 8 #[9] Bs 6 A5 (vp n c q pos ln lost) ?_;cases y1 with
  | s0 DB DA=>
   dsimp only at h
   revert r;apply gO;exact jg lq (jt (jt (jg (Eq.refl (aK c q pos ln lost DB DA)) (lE (tg:=[([(2,3)],(aK c q pos ln lost DB DA))]) R9 [4,5] [0,1,3,4])))))))
def aO:ST:=.rd 0 (.rd 1 (.rd 2 (.rd 3 (.rd 4 (.rd 5 (.rd 6 (.rd 7 (.ef 8 (.rd 9 (.rd 10 (.rd 11 (.rd 12 (.rd 13 (.fin [] [1,3,4,7,8,19,20,21,90])))))) (.no)))))))))
theorem kg:CA (BA Tryz.f59 5) [] aO:=by unfold CA;kernel_rfl
def aN:ST:=.rd 0 (.rd 1 (.rd 2 (.rd 3 (.rd 4 (.rd 5 (.ef 6 (.ef 7 (.fin [] [1,3,4,19,20,21,90]) (.no)) (.no)))))))
theorem kf:CA (BA Tryz.f59 6) [6] aN:=by unfold CA;kernel_rfl
theorem ke:Aj (BA Tryz.f59 8) [] (List.range 16) []:=by unfold Aj;kernel_rfl
def aQ:ST:=.rd 0 (.rd 1 (.rd 2 (.rd 3 (.rd 4 (.rd 5 (.rd 6 (.rd 7 (.ef 8 (.rd 9 (.rd 10 (.rd 11 (.ef 12 (.ef 13 (.ef 14 (.ef 15 (.fin [0,1] [1,3,4,10,11,12,64,65,66,90]) (.no)) (.no)) (.no)) (.ef 13 (.ef 12 (.ef 14 (.ef 15 (.fin [1,0] [1,3,4,10,11,12,64,65,66,90]) (.no)) (.no)) (.no)) (.no)))))) (.ef 12 (.ef 8 (.rd 9 (.rd 10 (.rd 11 (.ef 13 (.ef 14 (.ef 15 (.fin [0,1] [1,3,4,10,11,12,64,65,66,90]) (.no)) (.no)) (.no))))) (.ef 13 (.ef 8 (.rd 9 (.rd 10 (.rd 11 (.ef 14 (.ef 15 (.fin [0,1] [1,3,4,10,11,12,64,65,66,90]) (.no)) (.no))))) (.no)) (.no))) (.ef 13 (.ef 8 (.rd 9 (.rd 10 (.rd 11 (.ef 12 (.ef 14 (.ef 15 (.fin [1,0] [1,3,4,10,11,12,64,65,66,90]) (.no)) (.no)) (.no))))) (.ef 12 (.ef 8 (.rd 9 (.rd 10 (.rd 11 (.ef 14 (.ef 15 (.fin [1,0] [1,3,4,10,11,12,64,65,66,90]) (.no)) (.no))))) (.no)) (.no))) (.no)))))))))))
theorem km:CA (BA Tryz.f59 13) [12,13,14] aQ:=by unfold CA;kernel_rfl
theorem kj:Aj (BA Tryz.f59 14) [([0,1,2,3,4,5,6],7)] [] []:=by unfold Aj;kernel_rfl
theorem ki:Aj (BA Tryz.f59 17) [] (List.range 24) []:=by unfold Aj;kernel_rfl
def aP:ST:=.rd 0 (.rd 1 (.rd 2 (.rd 3 (.ef 4 (.fin [] [2]) (.no)))))
theorem bK:CA (BA Tryz.f59 18) [] aP:=by unfold CA;kernel_rfl
def Gh:BU:=fun i=>match i with
 | 5=>.tre [] aO
 | 6=>.tre [6] aN
 | 8=>.ord [] (List.range 16) []
 | 13=>.tre [12,13,14] aQ
 | 14=>.ord [([0,1,2,3,4,5,6],7)] [] []
 | 17=>.ord [] (List.range 24) []
 | 18=>.tre [] aP
 | _=>.no
def sG (c:AB) (q:AA) (pos:List Int) (ln:Nat) (o1:List Int) (AO Aa:Int):DH:=[some (.cells (AG c++AD q++[.ints pos,.msl 1 1 0 ln])),some (.ints o1),some (.cells [.ref 0 0]),some (.cells [.i AO]),some (.cells [.i Aa])]
def Z8 (y1:Int×Int×(List Int)) (c:AB) (x21:Int) (q:AA) (pos:List Int) (ln:Nat) (AO Aa:Int):St:=⟨(AL 129 [(1,.ref 2 0),(3,.ref 3 0),(4,.ref 4 0),(7,.i y1.1),(8,.i y1.2.1),(19,.ints c.cells),(20,.i (c.cells.length:Int)),(21,.i x21)]),([some (.cells (AG c++AD q++[.ints pos,.msl 1 1 0 ln])),some (.ints y1.2.2),some (.cells [.ref 0 0]),some (.cells [.i AO]),some (.cells [.i Aa])]:DH)⟩
def Z7 (c:AB) (x21:Int) (q:AA) (pos:List Int) (ln:Nat) (y1:Int×Int×(List Int)) (AO Aa:Int):St:=⟨(AL 129 [(1,.ref 2 0),(3,.ref 3 0),(4,.ref 4 0),(19,.ints c.cells),(20,.i (c.cells.length:Int)),(21,.i x21)]),([some (.cells (AG c++AD q++[.ints pos,.msl 1 1 0 ln])),some (.ints y1.2.2),some (.cells [.ref 0 0]),some (.cells [.i (AO+y1.1)]),some (.cells [.i (Aa+y1.2.1)])]:DH)⟩
def sF (c:AB) (q:AA) (pos:List Int) (ln:Nat) (o1:List Int) (AO Aa AW:Int):DH:=[some (.cells (AG c++AD q++[.ints pos,.msl 1 1 0 ln])),some (.ints o1),some (.cells [.ref 0 0]),some (.cells [.i AO]),some (.cells [.i Aa]),some (.cells [.i (c.cells.getD ((AW).toNat) 0)])]
def Ku (c:AB) (AW:Int) (q:AA) (pos:List Int) (ln:Nat) (y1:Int×Int×(List Int)) (AO Aa:Int):St:=⟨(AL 129 [(1,.ref 2 0),(3,.ref 3 0),(4,.ref 4 0),(10,.ref 5 0),(11,.ref 6 0),(12,.ref 7 0),(64,.ints c.cells),(65,.i (c.cells.length:Int)),(66,.i AW)]),([some (.cells (AG c++AD q++[.ints pos,.msl 1 1 0 ln])),some (.ints y1.2.2),some (.cells [.ref 0 0]),some (.cells [.i AO]),some (.cells [.i Aa]),some (.cells [.i (c.cells.getD ((AW).toNat) 0)]),some (.cells [.i y1.1]),some (.cells [.i y1.2.1])]:DH)⟩
def eS (c:AB) (q:AA) (pos:List Int) (ln:Nat) (o1:List Int) (AO Aa AW:Int):DH:=[some (.cells (AG c++AD q++[.ints pos,.msl 1 1 0 ln])),some (.ints o1),some (.cells [.ref 0 0]),some (.cells [.i AO]),some (.cells [.i Aa]),some (.cells [.i (c.cells.getD ((AW).toNat) 0)]),some (.cells [.i 0])]
def eQ (c:AB) (q:AA) (pos:List Int) (ln:Nat) (o1:List Int) (AO Aa AW:Int):DH:=[some (.cells (AG c++AD q++[.ints pos,.msl 1 1 0 ln])),some (.ints o1),some (.cells [.ref 0 0]),some (.cells [.i AO]),some (.cells [.i Aa]),some (.cells [.i (c.cells.getD ((AW).toNat) 0)]),some (.cells [.i 0]),some (.cells [.i 0])]
def sD (c:AB) (q:AA) (pos:List Int) (ln:Nat) (y1:Int×Int×(List Int)) (AO Aa AW:Int):DH:=[some (.cells (AG c++AD q++[.ints pos,.msl 1 1 0 ln])),some (.ints y1.2.2),some (.cells [.ref 0 0]),some (.cells [.i AO]),some (.cells [.i Aa]),some (.cells [.i (c.cells.getD ((AW).toNat) 0)]),some (.cells [.i y1.1]),some (.cells [.i y1.2.1])]
def sC (c:AB) (q:AA) (pos:List Int) (ln:Nat) (y1:Int×Int×(List Int)) (AO Aa AW:Int):DH:=[some (.cells (AG c++AD q++[.ints pos,.msl 1 1 0 ln])),some (.ints y1.2.2),some (.cells [.ref 0 0]),some (.cells [.i AO]),some (.cells [.i Aa]),some (.cells [.i (c.cells.getD ((AW).toNat) 0)]),some (.cells [.i y1.1]),some (.cells [.i y1.2.1]),some (.iter ((BO (pos.getD ((c.cells.getD ((AW).toNat) 0).toNat) 0)).map Bs))]
def Xm (c:AB) (q:AA) (pos:List Int) (ln:Nat) (Fd:List Int) (AO Aa AW:Int) (y1:Int×Int×(List Int)):DH:=[some (.cells (AG c++AD q++[.ints pos,.msl 1 1 0 ln])),some (.ints Fd),some (.cells [.ref 0 0]),some (.cells [.i AO]),some (.cells [.i Aa]),some (.cells [.i (c.cells.getD ((AW).toNat) 0)]),some (.cells [.i y1.1]),some (.cells [.i y1.2.1]),none]
def Rq (c:AB) (q:AA) (pos:List Int) (ln:Nat) (Hz:(List Int)) (AO Aa AW:Int) (y1:Int×Int×(List Int)):St:=⟨(AL 129 []),([some (.cells (AG c++AD q++[.ints pos,.msl 1 1 0 ln])),some (.ints Hz),some (.cells [.ref 0 0]),some (.cells [.i AO]),some (.cells [.i Aa]),some (.cells [.i (c.cells.getD ((AW).toNat) 0)]),some (.cells [.i y1.1]),some (.cells [.i y1.2.1]),none]:DH)⟩
inductive Is where
 | s0 (Fd:List Int)
def ak (c:AB) (AW:Int) (q:AA) (pos:List Int) (ln:Nat) (AO Aa:Int) (y1:Int×Int×(List Int)):Is -> DH
 | .s0 Fd=>[some (.cells (AG c++AD q++[.ints pos,.msl 1 1 0 ln])),some (.ints Fd),some (.cells [.ref 0 0]),some (.cells [.i AO]),some (.cells [.i Aa]),some (.cells [.i (c.cells.getD ((AW).toNat) 0)]),some (.cells [.i y1.1]),some (.cells [.i y1.2.1]),none]
def Rx (n:Nat) (c:AB) (AW:Int) (q:AA) (pos:List Int) (ln:Nat) (AO Aa:Int) (y1:Int×Int×(List Int)) (Dx:Int) (Fd:List Int):Option Is:=
 if (0<=Dx/\ Dx<(q.values.length:Int))/\ AH (AO-y1.1)/\ AH ((AO-y1.1)+(q.values.getD ((Dx).toNat) 0)) then
  bif (decide (((AO-y1.1)+(q.values.getD ((Dx).toNat) 0))>c.hi)) then
   if 0<=Dx/\ Dx<=(IntKind.i64.bits:Int) then
    (Cv n (c.cells.getD ((AW).toNat) 0) (IntKind.i64.wrap (1*2 ^ (Dx).toNat)) c q pos ln Fd).bind fun Hz=>
     some (.s0 Hz)
   else none
  else
   if AH (Aa-y1.2.1)/\ AH ((Aa-y1.2.1)+(q.values.getD ((Dx).toNat) 0)) then
    bif (decide (((Aa-y1.2.1)+(q.values.getD ((Dx).toNat) 0))<c.lo)) then
     if 0<=Dx/\ Dx<=(IntKind.i64.bits:Int) then
      (Cv n (c.cells.getD ((AW).toNat) 0) (IntKind.i64.wrap (1*2 ^ (Dx).toNat)) c q pos ln Fd).bind fun Hz=>
       some (.s0 Hz)
     else none
    else
     some (.s0 Fd)
   else none
 else none
def aj (n:Nat) (c:AB) (AW:Int) (q:AA) (pos:List Int) (ln:Nat) (AO Aa:Int) (y1:Int×Int×(List Int)) (Dx:Int):Is -> Option Is
 | .s0 Fd=>Rx n c AW q pos ln AO Aa y1 Dx Fd
def Ry (n:Nat) (c:AB) (AW:Int) (q:AA) (pos:List Int) (ln:Nat) (AO Aa:Int) (y1:Int×Int×(List Int)) (Dx:Int) (s:Is):Option Is:=aj n c AW q pos ln AO Aa y1 Dx s
theorem kD (n:Nat) (c:AB) (AW:Int) (q:AA) (pos:List Int) (ln:Nat) (AO Aa:Int) (y1:Int×Int×(List Int)) (l B:Nat) (N:Yd 9) (Dx:Int) (s:Is) (r:Is) (h:Ry n c AW q pos ln AO Aa y1 Dx s=some r):TA l B N (C8 9 [] 0 (ak c AW q pos ln AO Aa y1 r)) Tryz.f59 89 ⟨AL 129 [(1,.ref 2 0),(3,.ref 3 0),(4,.ref 4 0),(10,.ref 5 0),(11,.ref 6 0),(12,.ref 7 0),(64,.ints c.cells),(65,.i (c.cells.length:Int)),(66,.i AW),(89,.it 8),(90,.i Dx)],ak c AW q pos ln AO Aa y1 s⟩:=by
 cases s with
 | s0 Fd=>
  replace h:Rx n c AW q pos ln AO Aa y1 Dx Fd=some r:=h;unfold Rx at h;refine ag Gh [0,1,2,3,4,5,6,7,8] H0 (AL 129 [(1,.ref 2 0),(3,.ref 3 0),(4,.ref 4 0),(10,.ref 5 0),(11,.ref 6 0),(12,.ref 7 0),(13,.i Dx)]) (Xm c q pos ln Fd AO Aa AW y1) fun N=>?_
  revert r;apply gO;exact gc (gi (jg ki (gc (gw 101 (gw 103 (bi 109 (jg bK (gi (ce FJ [0,1] (Xm c q pos ln Fd AO Aa AW y1) fun Hz=>jg (Eq.refl (Rq c q pos ln Hz AO Aa AW y1)) (lF fun p=>rr (tg:=[([],(Rq c q pos ln Hz AO Aa AW y1))]) Gh [0,1,2,3,4,5,6,7,8] rfl p)))) (gc (gw 113 (gw 115 (bi 121 (jg bK (gi (ce FJ [0,1] (Xm c q pos ln Fd AO Aa AW y1) fun Hz=>jg (Eq.refl (Rq c q pos ln Hz AO Aa AW y1)) (lF fun p=>rr (tg:=[([],(Rq c q pos ln Hz AO Aa AW y1))]) Gh [0,1,2,3,4,5,6,7,8] rfl p)))) (lF fun p=>rr Gh [0,1,2,3,4,5,6,7,8] rfl p)))))))))))
inductive Of where
 | l1 (x21:Int) (o1:List Int) (AO Aa:Int)
 | l2 (AW:Int) (o1:List Int) (AO Aa:Int)
def Oe (n:Nat) (self:Of -> Option (Bool×(List Int))) (c:AB) (q:AA) (pos:List Int) (ln:Nat) (lost:List Int) (x21:Int) (o1:List Int) (AO Aa:Int):Option (Bool×(List Int)):=
 bif (decide (x21<(c.cells.length:Int))) then
  if (0<=x21/\ x21<(c.cells.length:Int))/\ (0<=(c.cells.getD ((x21).toNat) 0)/\ (c.cells.getD ((x21).toNat) 0)<(pos.length:Int)) then
   (Qz n (pos.getD ((c.cells.getD ((x21).toNat) 0).toNat) 0) c q pos ln o1).bind fun y1=>
    if AH (AO+y1.1)/\ AH (Aa+y1.2.1)/\ AH (x21+1) then
     self (.l1 (x21+1) y1.2.2 (AO+y1.1) (Aa+y1.2.1))
    else none
  else none
 else
  bif (decide (AO>c.hi)) then
   some (false,o1)
  else
   bif (decide (Aa<c.lo)) then
    some (false,o1)
   else
    self (.l2 0 o1 AO Aa)
def Od (n:Nat) (self:Of -> Option (Bool×(List Int))) (c:AB) (q:AA) (pos:List Int) (ln:Nat) (lost:List Int) (AW:Int) (o1:List Int) (AO Aa:Int):Option (Bool×(List Int)):=
 bif (decide (AW<(c.cells.length:Int))) then
  if (0<=AW/\ AW<(c.cells.length:Int))/\ (0<=(c.cells.getD ((AW).toNat) 0)/\ (c.cells.getD ((AW).toNat) 0)<(pos.length:Int)) then
   (Qz n (pos.getD ((c.cells.getD ((AW).toNat) 0).toNat) 0) c q pos ln o1).bind fun y1=>
    if 0<=(pos.getD ((c.cells.getD ((AW).toNat) 0).toNat) 0)/\ (pos.getD ((c.cells.getD ((AW).toNat) 0).toNat) 0)<9223372036854775808 then
     (Bz (Ry n c AW q pos ln AO Aa y1) (BO (pos.getD ((c.cells.getD ((AW).toNat) 0).toNat) 0)) (.s0 y1.2.2)).bind fun y2=>
      match y2 with
      | .s0 Je=>
       if AH (AW+1) then
        self (.l2 (AW+1) Je AO Aa)
       else none
    else none
  else none
 else
  some (true,o1)
def kC (n:Nat) (self:Of -> Option (Bool×(List Int))) (c:AB) (q:AA) (pos:List Int) (ln:Nat) (lost:List Int):Option (Bool×(List Int)):=
 self (.l1 0 lost 0 0)
def HL (c:AB) (q:AA) (pos:List Int) (ln:Nat) (lost:List Int):Nat -> Of -> Option (Bool×(List Int))
 | 0,_=>none
 | n+1,.l1 x21 o1 AO Aa=>Oe n (HL c q pos ln lost n) c q pos ln lost x21 o1 AO Aa
 | n+1,.l2 AW o1 AO Aa=>Od n (HL c q pos ln lost n) c q pos ln lost AW o1 AO Aa
def Me (n:Nat) (c:AB) (q:AA) (pos:List Int) (ln:Nat) (lost:List Int):Option (Bool×(List Int)):=kC n (HL c q pos ln lost n) c q pos ln lost
def kE (n B:Nat) (N:Yd 2) (c:AB) (q:AA) (pos:List Int) (ln:Nat) (lost:List Int) (r:Bool×(List Int)):Of -> Prop
 | .l1 x21 o1 AO Aa=>∀ m0:Nat,n<=m0 -> TW B N (FQ Tryz.f59 2 (.bool r.1) [some (.cells (AG c++AD q++[.ints pos,.msl 1 1 0 ln])),some (.ints r.2)]) (Ai m0 (Ap (AZ Tryz.f59) 0 [])) ⟨AL 129 [(1,.ref 2 0),(3,.ref 3 0),(4,.ref 4 0),(19,.ints c.cells),(20,.i (c.cells.length:Int)),(21,.i x21)],[some (.cells (AG c++AD q++[.ints pos,.msl 1 1 0 ln])),some (.ints o1),some (.cells [.ref 0 0]),some (.cells [.i AO]),some (.cells [.i Aa])]⟩
 | .l2 AW o1 AO Aa=>∀ m0:Nat,n<=m0 -> TW B N (FQ Tryz.f59 2 (.bool r.1) [some (.cells (AG c++AD q++[.ints pos,.msl 1 1 0 ln])),some (.ints r.2)]) (Ai m0 (Ap (AZ Tryz.f59) 2 [])) ⟨AL 129 [(1,.ref 2 0),(3,.ref 3 0),(4,.ref 4 0),(64,.ints c.cells),(65,.i (c.cells.length:Int)),(66,.i AW)],[some (.cells (AG c++AD q++[.ints pos,.msl 1 1 0 ln])),some (.ints o1),some (.cells [.ref 0 0]),some (.cells [.i AO]),some (.cells [.i Aa])]⟩
theorem kF (B:Nat) (N:Yd 2) (c:AB) (q:AA) (pos:List Int) (ln:Nat) (lost:List Int):Al (HL c q pos ln lost) (kE · B N c q pos ln lost):=ia (fun _=>rfl) fun n AF pt r h=>by
 cases pt
 case l1 x21 o1 AO Aa=>
  intro m0 AC;refine rd AC fun m0 AC=>?_
  revert r;apply gO;exact bi 22 (gc (gi (jg kg (gi (ce Nt [0,1] (sG c q pos ln o1 AO Aa) fun y1=>jg (Eq.refl (Z8 y1 c x21 q pos ln AO Aa)) (jg kf (gc (gw 39 (gc (gw 42 (jt (jt (jg (Eq.refl (Z7 c x21 q pos ln y1 AO Aa)) (gw 43 (lG (tg:=[([],(Z8 y1 c x21 q pos ln AO Aa)),([(6,3)],(Z7 c x21 q pos ln y1 AO Aa))]) Gh [0,1,2,3,4] (AF _ _ · m0 AC)))))))))))))))) (jg ke (bi 50 (lE Gh [2] [0,1]) (bi 58 (lE Gh [2] [0,1]) (lN Gh [0,1,2,3,4] (AF _ _ · n Nat.le.refl)))))
 case l2 AW o1 AO Aa=>
  intro m0 AC;refine rd AC fun m0 AC=>?_
  revert r;apply gO
  exact bi 67 (gc (gi (jt (jg km (gn fun g1=>jg g1 (cn fun y1 A5=>jc (em (Nt A5) [0,1] (sF c q pos ln o1 AO Aa AW)) (jt (jt (jg (Eq.refl (Ku c AW q pos ln y1 AO Aa)) (jt (jt (jg (Eq.refl (Ku c AW q pos ln y1 AO Aa)) (jc (em (Nt A5) [0,1] (eS c q pos ln o1 AO Aa AW)) (jt (jt (jg (Eq.refl (Ku c AW q pos ln y1 AO Aa)) (jc (em (Nt A5) [0,1] (eQ c q pos ln o1 AO Aa AW)) (jt (jt (jg (Eq.refl (Ku c AW q pos ln y1 AO Aa)) (jc (em (Nt A5) [0,1] (eS c q pos ln o1 AO Aa AW)) (jt (jt (jg (Eq.refl (Ku c AW q pos ln y1 AO Aa)) (jc (em (Nt A5) [0,1] (eQ c q pos ln o1 AO Aa AW)) (jt (jt (jg (Eq.refl (Ku c AW q pos ln y1 AO Aa)) (jg kj (jg g1 (gn fun g2=>jc (Ir g2 (sD c q pos ln y1 AO Aa AW)) (cn fun y2 CQ=>fun p r h=>by
   refine gs (tg:=[([],(Ku c AW q pos ln y1 AO Aa))]) Gh [0,1,2,3,4,5,6,7,8] p (GX (AZ Tryz.f59) 89 [m0]) (AL 129 [(1,.ref 2 0),(3,.ref 3 0),(4,.ref 4 0),(10,.ref 5 0),(11,.ref 6 0),(12,.ref 7 0),(64,.ints c.cells),(65,.i (c.cells.length:Int)),(66,.i AW),(89,.it 8)]) (sC c q pos ln y1 AO Aa AW) ?_;refine r0 8 89 #[90] Bs 9 CQ (kD n c AW q pos ln AO Aa y1) ?_;cases y2 with
   | s0 Je=>
    dsimp only at h
    revert r;apply gO;exact gw 128 (lG Gh [0,1,2,3,4] (AF _ _ · m0 AC)))))))))))))))))))))))))))))))))) (lE Gh [2] [0,1])
theorem kB {n:Nat} {c:AB} {q:AA} {pos:List Int} {ln:Nat} {lost:List Int} {r:Bool×(List Int)} (h:Me n c q pos ln lost=some r):EQ 59 [.ref 0 0] [some (.cells (AG c++AD q++[.ints pos,.msl 1 1 0 ln])),some (.ints lost)] (.bool r.1) [some (.cells (AG c++AD q++[.ints pos,.msl 1 1 0 ln])),some (.ints r.2)] false:=by
 refine ot Tryz.func59 fun B N=>?_
 revert r;apply gO;exact jt (jt (lN Gh [0,1,2,3,4] ((kF B N c q pos ln lost n) _ _ · n Nat.le.refl)))
end Go.Proofs.YtekkngkphejfcaaGreatDoor
namespace Go.Proofs.YtekkngkphejfcaaGreatDoor
open Go.RowKit
set_option maxRecDepth 100000
set_option maxHeartbeats 40000000
theorem ly:Aj (BA Tryz.f89 1) [] (List.range 18) []:=by unfold Aj;kernel_rfl
def kW:BU:=fun i=>match i with
 | 1=>.ord [] (List.range 18) []
 | _=>.no
def io (n:Nat) (s_ t_:Int) (c:AB) (q:AA) (pos:List Int) (ln:Nat) (lost:List Int):Option (Bool×(List Int)):=
 if (0<=s_/\ s_<(q.values.length:Int))/\ (0<=t_/\ t_<(q.values.length:Int))/\ AH ((q.values.getD ((s_).toNat) 0)-(q.values.getD ((t_).toNat) 0))/\ AH (0-((q.values.getD ((s_).toNat) 0)-(q.values.getD ((t_).toNat) 0))) then
  some ((decide ((if (0-((q.values.getD ((s_).toNat) 0)-(q.values.getD ((t_).toNat) 0)))>((q.values.getD ((s_).toNat) 0)-(q.values.getD ((t_).toNat) 0)) then (0-((q.values.getD ((s_).toNat) 0)-(q.values.getD ((t_).toNat) 0))) else ((q.values.getD ((s_).toNat) 0)-(q.values.getD ((t_).toNat) 0)))>=c.lo)),lost)
 else none
def VE (n:Nat) (s_ t_:Int) (c:AB) (q:AA) (pos:List Int) (ln:Nat) (lost:List Int):Option (Bool×(List Int)):=io n s_ t_ c q pos ln lost
theorem xX {n:Nat} {s_ t_:Int} {c:AB} {q:AA} {pos:List Int} {ln:Nat} {lost:List Int} {r:Bool×(List Int)} (h:VE n s_ t_ c q pos ln lost=some r):EQ 89 [.i s_,.i t_,.ref 0 0] [some (.cells [.ref 1 0]),some (.cells (AG c++AD q++[.ints pos,.msl 2 1 0 ln])),some (.ints lost)] (.bool r.1) [some (.cells [.ref 1 0]),some (.cells (AG c++AD q++[.ints pos,.msl 2 1 0 ln])),some (.ints r.2)] false:=by
 refine ot Tryz.func89 fun B N=>?_
 revert r;apply gO;exact jg ly (gc (gi (gc (gi (gc (gw 23 (gw 26 (lE kW [5] [0,1,2]))))))))
theorem lY:Aj (BA Tryz.f90 1) [] (List.range 6) []:=by unfold Aj;kernel_rfl
def Ow:BU:=fun i=>match i with
 | 1=>.ord [] (List.range 6) []
 | _=>.no
def dA (n:Nat) (s_ t_:Int) (c:AB) (q:AA) (pos:List Int) (ln:Nat) (lost:List Int):Option (Bool×(List Int)):=
 if (0<=s_/\ s_<=(IntKind.i64.bits:Int))/\ (0<=t_/\ t_<=(IntKind.i64.bits:Int)) then
  bif ((bits .and .i64 (IntKind.i64.wrap (1*2 ^ (s_).toNat)) c.set)==0) then
   bif ((bits .and .i64 (IntKind.i64.wrap (1*2 ^ (t_).toNat)) c.set)==0) then
    some (true,lost)
   else
    some (((bits .and .i64 (IntKind.i64.wrap (1*2 ^ (s_).toNat)) c.other)==0),lost)
  else
   bif ((bits .and .i64 (IntKind.i64.wrap (1*2 ^ (t_).toNat)) c.other)==0) then
    bif ((bits .and .i64 (IntKind.i64.wrap (1*2 ^ (t_).toNat)) c.set)==0) then
     some (true,lost)
    else
     some (((bits .and .i64 (IntKind.i64.wrap (1*2 ^ (s_).toNat)) c.other)==0),lost)
   else
    some (false,lost)
 else none
def TJ (n:Nat) (s_ t_:Int) (c:AB) (q:AA) (pos:List Int) (ln:Nat) (lost:List Int):Option (Bool×(List Int)):=dA n s_ t_ c q pos ln lost
theorem pC {n:Nat} {s_ t_:Int} {c:AB} {q:AA} {pos:List Int} {ln:Nat} {lost:List Int} {r:Bool×(List Int)} (h:TJ n s_ t_ c q pos ln lost=some r):EQ 90 [.i s_,.i t_,.ref 0 0] [some (.cells [.ref 1 0]),some (.cells (AG c++AD q++[.ints pos,.msl 2 1 0 ln])),some (.ints lost)] (.bool r.1) [some (.cells [.ref 1 0]),some (.cells (AG c++AD q++[.ints pos,.msl 2 1 0 ln])),some (.ints r.2)] false:=by
 refine ot Tryz.func90 fun B N=>?_
 revert r;apply gO;exact jg lY (gc (gi (gi (bi 19 (bi 38 (lE Ow [5] [0,1,2]) (lE Ow [5] [0,1,2])) (bi 28 (bi 38 (lE Ow [5] [0,1,2]) (lE Ow [5] [0,1,2])) (lE Ow [5] [0,1,2]))))))
theorem lW:Aj (BA Tryz.f88 1) [] (List.range 16) []:=by unfold Aj;kernel_rfl
theorem lU:Aj (BA Tryz.f88 2) [([0,1,2,3,4,5,6,7,8,9,10,11,12,13],14)] [15] [16]:=by unfold Aj;kernel_rfl
theorem lT:Aj (BA Tryz.f88 9) [] [0,1,2,3] [4]:=by unfold Aj;kernel_rfl
theorem lV:Aj (BA Tryz.f88 10) [] [0,1,2,3] [4]:=by unfold Aj;kernel_rfl
def Jp:BU:=fun i=>match i with
 | 1=>.ord [] (List.range 16) []
 | 2=>.ord [([0,1,2,3,4,5,6,7,8,9,10,11,12,13],14)] [15] [16]
 | 9=>.ord [] [0,1,2,3] [4]
 | 10=>.ord [] [0,1,2,3] [4]
 | _=>.no
def tI (c:AB) (q:AA) (pos:List Int) (ln:Nat) (lost:List Int):DH:=[some (.cells [.ref 1 0]),some (.cells (AG c++AD q++[.ints pos,.msl 2 1 0 ln])),some (.ints lost),some (.cells [.fn 89 1 (L1 [.ref 0 0])]),some (.cells [.i (pos.getD ((c.cells.getD 1 0).toNat) 0)]),some (.cells [.i 0]),some (.cells [.i 0])]
def tH (c:AB) (q:AA) (pos:List Int) (ln:Nat) (lost:List Int):DH:=[some (.cells [.ref 1 0]),some (.cells (AG c++AD q++[.ints pos,.msl 2 1 0 ln])),some (.ints lost),some (.cells [.fn 89 1 (L1 [.ref 0 0])]),some (.cells [.i (pos.getD ((c.cells.getD 1 0).toNat) 0)]),some (.cells [.i 0]),some (.cells [.i 0]),some (.iter ((BO (pos.getD ((c.cells.getD 0 0).toNat) 0)).map Bs))]
def tG (c:AB) (q:AA) (pos:List Int) (ln:Nat) (DB:List Int) (DA Er:Int):DH:=[some (.cells [.ref 1 0]),some (.cells (AG c++AD q++[.ints pos,.msl 2 1 0 ln])),some (.ints DB),some (.cells [.fn 89 1 (L1 [.ref 0 0])]),some (.cells [.i (pos.getD ((c.cells.getD 1 0).toNat) 0)]),some (.cells [.i DA]),some (.cells [.i Er]),none]
def tF (c:AB) (q:AA) (pos:List Int) (ln:Nat) (y2:(List Int)) (DA Er:Int):DH:=[some (.cells [.ref 1 0]),some (.cells (AG c++AD q++[.ints pos,.msl 2 1 0 ln])),some (.ints y2),some (.cells [.fn 89 1 (L1 [.ref 0 0])]),some (.cells [.i (pos.getD ((c.cells.getD 1 0).toNat) 0)]),some (.cells [.i DA]),some (.cells [.i Er]),none]
def ea (c:AB) (q:AA) (pos:List Int) (ln:Nat) (CO:List Int) (CN CM Ao:Int):DH:=[some (.cells [.ref 1 0]),some (.cells (AG c++AD q++[.ints pos,.msl 2 1 0 ln])),some (.ints CO),some (.cells [.fn 89 1 (L1 [.ref 0 0])]),some (.cells [.i (pos.getD ((c.cells.getD 1 0).toNat) 0)]),some (.cells [.i CN]),some (.cells [.i CM]),none,some (.cells [.i Ao])]
def tE (c:AB) (q:AA) (pos:List Int) (ln:Nat) (CO:List Int) (CN CM Ao:Int):DH:=[some (.cells [.ref 1 0]),some (.cells (AG c++AD q++[.ints pos,.msl 2 1 0 ln])),some (.ints CO),some (.cells [.fn 89 1 (L1 [.ref 0 0])]),some (.cells [.i (pos.getD ((c.cells.getD 1 0).toNat) 0)]),some (.cells [.i CN]),some (.cells [.i CM]),none,some (.cells [.i Ao]),some (.iter ((BO (pos.getD ((c.cells.getD 1 0).toNat) 0)).map Bs))]
def eZ (c:AB) (q:AA) (pos:List Int) (ln:Nat) (Cz:List Int) (Cl Ck Ao:Int):DH:=[some (.cells [.ref 1 0]),some (.cells (AG c++AD q++[.ints pos,.msl 2 1 0 ln])),some (.ints Cz),some (.cells [.fn 89 1 (L1 [.ref 0 0])]),some (.cells [.i (pos.getD ((c.cells.getD 1 0).toNat) 0)]),some (.cells [.i Cl]),some (.cells [.i Ck]),none,some (.cells [.i Ao]),none]
inductive I7 where
 | s0 (Cz:List Int) (Cl Ck:Int)
def ck (c:AB) (q:AA) (pos:List Int) (ln:Nat) (Ao:Int):I7 -> DH
 | .s0 Cz Cl Ck=>[some (.cells [.ref 1 0]),some (.cells (AG c++AD q++[.ints pos,.msl 2 1 0 ln])),some (.ints Cz),some (.cells [.fn 89 1 (L1 [.ref 0 0])]),some (.cells [.i (pos.getD ((c.cells.getD 1 0).toNat) 0)]),some (.cells [.i Cl]),some (.cells [.i Ck]),none,some (.cells [.i Ao]),none]
def S6 (n:Nat) (c:AB) (q:AA) (pos:List Int) (ln:Nat) (Ao Co:Int) (Cz:List Int) (Cl Ck:Int):Option I7:=
 (VE n Ao Co c q pos ln Cz).bind fun MH=>
  bif MH.1 then
   if (0<=Ao/\ Ao<=(IntKind.i64.bits:Int))/\ (0<=Co/\ Co<=(IntKind.i64.bits:Int)) then
    some (.s0 MH.2 (bits .or .i64 Cl (IntKind.i64.wrap (1*2 ^ (Ao).toNat))) (bits .or .i64 Ck (IntKind.i64.wrap (1*2 ^ (Co).toNat))))
   else none
  else
   some (.s0 MH.2 Cl Ck)
def cj (n:Nat) (c:AB) (q:AA) (pos:List Int) (ln:Nat) (Ao Co:Int):I7 -> Option I7
 | .s0 Cz Cl Ck=>S6 n c q pos ln Ao Co Cz Cl Ck
def S7 (n:Nat) (c:AB) (q:AA) (pos:List Int) (ln:Nat) (Ao Co:Int) (s:I7):Option I7:=cj n c q pos ln Ao Co s
theorem oR (n:Nat) (c:AB) (q:AA) (pos:List Int) (ln:Nat) (Ao:Int) (l B:Nat) (N:Yd 10) (Co:Int) (s:I7) (r:I7) (h:S7 n c q pos ln Ao Co s=some r):TA l B N (C8 10 [] 0 (ck c q pos ln Ao r)) Tryz.f88 45 ⟨AL 69 [(3,.ref 3 0),(9,.ref 5 0),(10,.ref 6 0),(11,.ref 8 0),(45,.it 9),(46,.i Co)],ck c q pos ln Ao s⟩:=by
 cases s with
 | s0 Cz Cl Ck=>
  replace h:S6 n c q pos ln Ao Co Cz Cl Ck=some r:=h;unfold S6 at h;refine ag Jp [0,1,2,3,4,5,6,7,8,9] H0 (AL 69 [(3,.ref 3 0),(9,.ref 5 0),(10,.ref 6 0),(11,.ref 8 0),(12,.i Co)]) (eZ c q pos ln Cz Cl Ck Ao) fun N=>?_
  revert r;apply gO;exact ce xX [0,1,2] (eZ c q pos ln Cz Cl Ck Ao) fun _=>bi 50 (jg lT (gc (gi (jt (jg lV (gi (jt (lF fun p=>rr Jp [0,1,2,3,4,5,6,7,8,9] rfl p)))))))) (lF fun p=>rr Jp [0,1,2,3,4,5,6,7,8,9] rfl p)
inductive I8 where
 | s0 (CO:List Int) (CN CM:Int)
def cm (c:AB) (q:AA) (pos:List Int) (ln:Nat):I8 -> DH
 | .s0 CO CN CM=>[some (.cells [.ref 1 0]),some (.cells (AG c++AD q++[.ints pos,.msl 2 1 0 ln])),some (.ints CO),some (.cells [.fn 89 1 (L1 [.ref 0 0])]),some (.cells [.i (pos.getD ((c.cells.getD 1 0).toNat) 0)]),some (.cells [.i CN]),some (.cells [.i CM]),none]
def S5 (n:Nat) (c:AB) (q:AA) (pos:List Int) (ln:Nat) (Ao:Int) (CO:List Int) (CN CM:Int):Option I8:=
 if 0<=(pos.getD ((c.cells.getD 1 0).toNat) 0)/\ (pos.getD ((c.cells.getD 1 0).toNat) 0)<9223372036854775808 then
  (Bz (S7 n c q pos ln Ao) (BO (pos.getD ((c.cells.getD 1 0).toNat) 0)) (.s0 CO CN CM)).bind fun MI=>
   match MI with
   | .s0 RU RT RS=>
    some (.s0 RU RT RS)
 else none
def ci (n:Nat) (c:AB) (q:AA) (pos:List Int) (ln:Nat) (Ao:Int):I8 -> Option I8
 | .s0 CO CN CM=>S5 n c q pos ln Ao CO CN CM
def S8 (n:Nat) (c:AB) (q:AA) (pos:List Int) (ln:Nat) (Ao:Int) (s:I8):Option I8:=ci n c q pos ln Ao s
theorem oQ (n:Nat) (c:AB) (q:AA) (pos:List Int) (ln:Nat) (l B:Nat) (N:Yd 8) (Ao:Int) (s:I8) (r:I8) (h:S8 n c q pos ln Ao s=some r):TA l B N (C8 8 [] 0 (cm c q pos ln r)) Tryz.f88 42 ⟨AL 69 [(0,.ref 1 0),(3,.ref 3 0),(5,.i (c.cells.getD 0 0)),(6,.i (c.cells.getD 1 0)),(8,.ref 4 0),(9,.ref 5 0),(10,.ref 6 0),(42,.it 7),(43,.i Ao)],cm c q pos ln s⟩:=by
 cases s with
 | s0 CO CN CM=>
  replace h:S5 n c q pos ln Ao CO CN CM=some r:=h;unfold S5 at h;refine ag Jp [0,1,2,3,4,5,6,7,8] (H0.t) (AL 69 [(3,.ref 3 0),(8,.ref 4 0),(9,.ref 5 0),(10,.ref 6 0),(11,.ref 8 0)]) (ea c q pos ln CO CN CM Ao) fun N=>?_
  revert r;apply gO
  exact gn fun Y9=>jc (Ir Y9 (ea c q pos ln CO CN CM Ao)) (cn fun MI YO=>fun p r h=>by
   refine gs Jp [0,1,2,3,4,5,6,7,8,9] p (GX (SR Tryz.f88 42) 45 []) (AL 69 [(3,.ref 3 0),(9,.ref 5 0),(10,.ref 6 0),(11,.ref 8 0),(45,.it 9)]) (tE c q pos ln CO CN CM Ao) ?_;refine r0 9 45 #[46] Bs 10 YO (oR n c q pos ln Ao) ?_;cases MI with
   | s0 RU RT RS=>
    dsimp only at h
    revert r;apply gO;exact lF fun p=>rr Jp [0,1,2,3,4,5,6,7] rfl p)
def cg (n:Nat) (c:AB) (q:AA) (pos:List Int) (ln:Nat) (lost:List Int):Option (Bool×(List Int)):=
 if ((0:Int)<=0/\ 0<(c.cells.length:Int))/\ ((0:Int)<=1/\ 1<(c.cells.length:Int))/\ (0<=(c.cells.getD 0 0)/\ (c.cells.getD 0 0)<(pos.length:Int))/\ (0<=(c.cells.getD 1 0)/\ (c.cells.getD 1 0)<(pos.length:Int))/\ (0<=(pos.getD ((c.cells.getD 0 0).toNat) 0)/\ (pos.getD ((c.cells.getD 0 0).toNat) 0)<9223372036854775808) then
  (Bz (S8 n c q pos ln) (BO (pos.getD ((c.cells.getD 0 0).toNat) 0)) (.s0 lost 0 0)).bind fun y1=>
   match y1 with
   | .s0 DB DA Er=>
    (Cv n (c.cells.getD 0 0) (bits .xor .i64 (-1) DA) c q pos ln DB).bind fun y2=>
     (Cv n (c.cells.getD 1 0) (bits .xor .i64 (-1) Er) c q pos ln y2).bind fun y3=>
      some (true,y3)
 else none
def WS (n:Nat) (c:AB) (q:AA) (pos:List Int) (ln:Nat) (lost:List Int):Option (Bool×(List Int)):=cg n c q pos ln lost
theorem oP {n:Nat} {c:AB} {q:AA} {pos:List Int} {ln:Nat} {lost:List Int} {r:Bool×(List Int)} (h:WS n c q pos ln lost=some r):EQ 88 [.ref 1 0,.fn 89 1 (L1 [.ref 0 0])] [some (.cells [.ref 1 0]),some (.cells (AG c++AD q++[.ints pos,.msl 2 1 0 ln])),some (.ints lost)] (.bool r.1) [some (.cells [.ref 1 0]),some (.cells (AG c++AD q++[.ints pos,.msl 2 1 0 ln])),some (.ints r.2)] false:=by
 refine ot Tryz.func88 fun B N=>?_
 revert r;apply gO
 exact jg lW (gc (gi (gc (gi (jg lU (gc (gi (gc (gi (jt (gn fun g4=>jc (Ir g4 (tI c q pos ln lost)) (cn fun y1 A5=>fun p r h=>by
  refine gs Jp [0,1,2,3,4,5,6,7] p (GX (AZ Tryz.f88) 42 []) (AL 69 [(0,.ref 1 0),(3,.ref 3 0),(5,.i (c.cells.getD 0 0)),(6,.i (c.cells.getD 1 0)),(8,.ref 4 0),(9,.ref 5 0),(10,.ref 6 0),(42,.it 7)]) (tH c q pos ln lost) ?_;refine r0 7 42 #[43] Bs 8 A5 (oQ n c q pos ln) ?_;cases y1 with
  | s0 DB DA Er=>
   dsimp only at h
   revert r;apply gO;exact ce FJ [1,2] (tG c q pos ln DB DA Er) fun y2=>ce FJ [1,2] (tF c q pos ln y2 DA Er) fun _=>lE Jp [4] [0,1,2]))))))))))))
theorem lS:Aj (BA Tryz.f88 1) [] (List.range 16) []:=by unfold Aj;kernel_rfl
theorem lQ:Aj (BA Tryz.f88 2) [([0,1,2,3,4,5,6,7,8,9,10,11,12,13],14)] [15] [16]:=by unfold Aj;kernel_rfl
theorem lP:Aj (BA Tryz.f88 9) [] [0,1,2,3] [4]:=by unfold Aj;kernel_rfl
theorem lR:Aj (BA Tryz.f88 10) [] [0,1,2,3] [4]:=by unfold Aj;kernel_rfl
def Jo:BU:=fun i=>match i with
 | 1=>.ord [] (List.range 16) []
 | 2=>.ord [([0,1,2,3,4,5,6,7,8,9,10,11,12,13],14)] [15] [16]
 | 9=>.ord [] [0,1,2,3] [4]
 | 10=>.ord [] [0,1,2,3] [4]
 | _=>.no
def tD (c:AB) (q:AA) (pos:List Int) (ln:Nat) (lost:List Int):DH:=[some (.cells [.ref 1 0]),some (.cells (AG c++AD q++[.ints pos,.msl 2 1 0 ln])),some (.ints lost),some (.cells [.fn 90 1 (L1 [.ref 0 0])]),some (.cells [.i (pos.getD ((c.cells.getD 1 0).toNat) 0)]),some (.cells [.i 0]),some (.cells [.i 0])]
def tC (c:AB) (q:AA) (pos:List Int) (ln:Nat) (lost:List Int):DH:=[some (.cells [.ref 1 0]),some (.cells (AG c++AD q++[.ints pos,.msl 2 1 0 ln])),some (.ints lost),some (.cells [.fn 90 1 (L1 [.ref 0 0])]),some (.cells [.i (pos.getD ((c.cells.getD 1 0).toNat) 0)]),some (.cells [.i 0]),some (.cells [.i 0]),some (.iter ((BO (pos.getD ((c.cells.getD 0 0).toNat) 0)).map Bs))]
def tB (c:AB) (q:AA) (pos:List Int) (ln:Nat) (DB:List Int) (DA Er:Int):DH:=[some (.cells [.ref 1 0]),some (.cells (AG c++AD q++[.ints pos,.msl 2 1 0 ln])),some (.ints DB),some (.cells [.fn 90 1 (L1 [.ref 0 0])]),some (.cells [.i (pos.getD ((c.cells.getD 1 0).toNat) 0)]),some (.cells [.i DA]),some (.cells [.i Er]),none]
def tA (c:AB) (q:AA) (pos:List Int) (ln:Nat) (y2:(List Int)) (DA Er:Int):DH:=[some (.cells [.ref 1 0]),some (.cells (AG c++AD q++[.ints pos,.msl 2 1 0 ln])),some (.ints y2),some (.cells [.fn 90 1 (L1 [.ref 0 0])]),some (.cells [.i (pos.getD ((c.cells.getD 1 0).toNat) 0)]),some (.cells [.i DA]),some (.cells [.i Er]),none]
def eY (c:AB) (q:AA) (pos:List Int) (ln:Nat) (CO:List Int) (CN CM Ao:Int):DH:=[some (.cells [.ref 1 0]),some (.cells (AG c++AD q++[.ints pos,.msl 2 1 0 ln])),some (.ints CO),some (.cells [.fn 90 1 (L1 [.ref 0 0])]),some (.cells [.i (pos.getD ((c.cells.getD 1 0).toNat) 0)]),some (.cells [.i CN]),some (.cells [.i CM]),none,some (.cells [.i Ao])]
def s9 (c:AB) (q:AA) (pos:List Int) (ln:Nat) (CO:List Int) (CN CM Ao:Int):DH:=[some (.cells [.ref 1 0]),some (.cells (AG c++AD q++[.ints pos,.msl 2 1 0 ln])),some (.ints CO),some (.cells [.fn 90 1 (L1 [.ref 0 0])]),some (.cells [.i (pos.getD ((c.cells.getD 1 0).toNat) 0)]),some (.cells [.i CN]),some (.cells [.i CM]),none,some (.cells [.i Ao]),some (.iter ((BO (pos.getD ((c.cells.getD 1 0).toNat) 0)).map Bs))]
def eX (c:AB) (q:AA) (pos:List Int) (ln:Nat) (Cz:List Int) (Cl Ck Ao:Int):DH:=[some (.cells [.ref 1 0]),some (.cells (AG c++AD q++[.ints pos,.msl 2 1 0 ln])),some (.ints Cz),some (.cells [.fn 90 1 (L1 [.ref 0 0])]),some (.cells [.i (pos.getD ((c.cells.getD 1 0).toNat) 0)]),some (.cells [.i Cl]),some (.cells [.i Ck]),none,some (.cells [.i Ao]),none]
inductive I5 where
 | s0 (Cz:List Int) (Cl Ck:Int)
def cc (c:AB) (q:AA) (pos:List Int) (ln:Nat) (Ao:Int):I5 -> DH
 | .s0 Cz Cl Ck=>[some (.cells [.ref 1 0]),some (.cells (AG c++AD q++[.ints pos,.msl 2 1 0 ln])),some (.ints Cz),some (.cells [.fn 90 1 (L1 [.ref 0 0])]),some (.cells [.i (pos.getD ((c.cells.getD 1 0).toNat) 0)]),some (.cells [.i Cl]),some (.cells [.i Ck]),none,some (.cells [.i Ao]),none]
def Sy (n:Nat) (c:AB) (q:AA) (pos:List Int) (ln:Nat) (Ao Co:Int) (Cz:List Int) (Cl Ck:Int):Option I5:=
 (TJ n Ao Co c q pos ln Cz).bind fun MH=>
  bif MH.1 then
   if (0<=Ao/\ Ao<=(IntKind.i64.bits:Int))/\ (0<=Co/\ Co<=(IntKind.i64.bits:Int)) then
    some (.s0 MH.2 (bits .or .i64 Cl (IntKind.i64.wrap (1*2 ^ (Ao).toNat))) (bits .or .i64 Ck (IntKind.i64.wrap (1*2 ^ (Co).toNat))))
   else none
  else
   some (.s0 MH.2 Cl Ck)
def ca (n:Nat) (c:AB) (q:AA) (pos:List Int) (ln:Nat) (Ao Co:Int):I5 -> Option I5
 | .s0 Cz Cl Ck=>Sy n c q pos ln Ao Co Cz Cl Ck
def Sz (n:Nat) (c:AB) (q:AA) (pos:List Int) (ln:Nat) (Ao Co:Int) (s:I5):Option I5:=ca n c q pos ln Ao Co s
theorem oO (n:Nat) (c:AB) (q:AA) (pos:List Int) (ln:Nat) (Ao:Int) (l B:Nat) (N:Yd 10) (Co:Int) (s:I5) (r:I5) (h:Sz n c q pos ln Ao Co s=some r):TA l B N (C8 10 [] 0 (cc c q pos ln Ao r)) Tryz.f88 45 ⟨AL 69 [(3,.ref 3 0),(9,.ref 5 0),(10,.ref 6 0),(11,.ref 8 0),(45,.it 9),(46,.i Co)],cc c q pos ln Ao s⟩:=by
 cases s with
 | s0 Cz Cl Ck=>
  replace h:Sy n c q pos ln Ao Co Cz Cl Ck=some r:=h;unfold Sy at h;refine ag Jo [0,1,2,3,4,5,6,7,8,9] H0 (AL 69 [(3,.ref 3 0),(9,.ref 5 0),(10,.ref 6 0),(11,.ref 8 0),(12,.i Co)]) (eX c q pos ln Cz Cl Ck Ao) fun N=>?_
  revert r;apply gO;exact ce pC [0,1,2] (eX c q pos ln Cz Cl Ck Ao) fun _=>bi 50 (jg lP (gc (gi (jt (jg lR (gi (jt (lF fun p=>rr Jo [0,1,2,3,4,5,6,7,8,9] rfl p)))))))) (lF fun p=>rr Jo [0,1,2,3,4,5,6,7,8,9] rfl p)
inductive I6 where
 | s0 (CO:List Int) (CN CM:Int)
def cd (c:AB) (q:AA) (pos:List Int) (ln:Nat):I6 -> DH
 | .s0 CO CN CM=>[some (.cells [.ref 1 0]),some (.cells (AG c++AD q++[.ints pos,.msl 2 1 0 ln])),some (.ints CO),some (.cells [.fn 90 1 (L1 [.ref 0 0])]),some (.cells [.i (pos.getD ((c.cells.getD 1 0).toNat) 0)]),some (.cells [.i CN]),some (.cells [.i CM]),none]
def Sx (n:Nat) (c:AB) (q:AA) (pos:List Int) (ln:Nat) (Ao:Int) (CO:List Int) (CN CM:Int):Option I6:=
 if 0<=(pos.getD ((c.cells.getD 1 0).toNat) 0)/\ (pos.getD ((c.cells.getD 1 0).toNat) 0)<9223372036854775808 then
  (Bz (Sz n c q pos ln Ao) (BO (pos.getD ((c.cells.getD 1 0).toNat) 0)) (.s0 CO CN CM)).bind fun MI=>
   match MI with
   | .s0 RU RT RS=>
    some (.s0 RU RT RS)
 else none
def cZ (n:Nat) (c:AB) (q:AA) (pos:List Int) (ln:Nat) (Ao:Int):I6 -> Option I6
 | .s0 CO CN CM=>Sx n c q pos ln Ao CO CN CM
def S0 (n:Nat) (c:AB) (q:AA) (pos:List Int) (ln:Nat) (Ao:Int) (s:I6):Option I6:=cZ n c q pos ln Ao s
theorem oN (n:Nat) (c:AB) (q:AA) (pos:List Int) (ln:Nat) (l B:Nat) (N:Yd 8) (Ao:Int) (s:I6) (r:I6) (h:S0 n c q pos ln Ao s=some r):TA l B N (C8 8 [] 0 (cd c q pos ln r)) Tryz.f88 42 ⟨AL 69 [(0,.ref 1 0),(3,.ref 3 0),(5,.i (c.cells.getD 0 0)),(6,.i (c.cells.getD 1 0)),(8,.ref 4 0),(9,.ref 5 0),(10,.ref 6 0),(42,.it 7),(43,.i Ao)],cd c q pos ln s⟩:=by
 cases s with
 | s0 CO CN CM=>
  replace h:Sx n c q pos ln Ao CO CN CM=some r:=h;unfold Sx at h;refine ag Jo [0,1,2,3,4,5,6,7,8] (H0.t) (AL 69 [(3,.ref 3 0),(8,.ref 4 0),(9,.ref 5 0),(10,.ref 6 0),(11,.ref 8 0)]) (eY c q pos ln CO CN CM Ao) fun N=>?_
  revert r;apply gO
  exact gn fun Y9=>jc (Ir Y9 (eY c q pos ln CO CN CM Ao)) (cn fun MI YO=>fun p r h=>by
   refine gs Jo [0,1,2,3,4,5,6,7,8,9] p (GX (SR Tryz.f88 42) 45 []) (AL 69 [(3,.ref 3 0),(9,.ref 5 0),(10,.ref 6 0),(11,.ref 8 0),(45,.it 9)]) (s9 c q pos ln CO CN CM Ao) ?_;refine r0 9 45 #[46] Bs 10 YO (oO n c q pos ln Ao) ?_;cases MI with
   | s0 RU RT RS=>
    dsimp only at h
    revert r;apply gO;exact lF fun p=>rr Jo [0,1,2,3,4,5,6,7] rfl p)
def cY (n:Nat) (c:AB) (q:AA) (pos:List Int) (ln:Nat) (lost:List Int):Option (Bool×(List Int)):=
 if ((0:Int)<=0/\ 0<(c.cells.length:Int))/\ ((0:Int)<=1/\ 1<(c.cells.length:Int))/\ (0<=(c.cells.getD 0 0)/\ (c.cells.getD 0 0)<(pos.length:Int))/\ (0<=(c.cells.getD 1 0)/\ (c.cells.getD 1 0)<(pos.length:Int))/\ (0<=(pos.getD ((c.cells.getD 0 0).toNat) 0)/\ (pos.getD ((c.cells.getD 0 0).toNat) 0)<9223372036854775808) then
  (Bz (S0 n c q pos ln) (BO (pos.getD ((c.cells.getD 0 0).toNat) 0)) (.s0 lost 0 0)).bind fun y1=>
   match y1 with
   | .s0 DB DA Er=>
    (Cv n (c.cells.getD 0 0) (bits .xor .i64 (-1) DA) c q pos ln DB).bind fun y2=>
     (Cv n (c.cells.getD 1 0) (bits .xor .i64 (-1) Er) c q pos ln y2).bind fun y3=>
      some (true,y3)
 else none
def WR (n:Nat) (c:AB) (q:AA) (pos:List Int) (ln:Nat) (lost:List Int):Option (Bool×(List Int)):=cY n c q pos ln lost
theorem oM {n:Nat} {c:AB} {q:AA} {pos:List Int} {ln:Nat} {lost:List Int} {r:Bool×(List Int)} (h:WR n c q pos ln lost=some r):EQ 88 [.ref 1 0,.fn 90 1 (L1 [.ref 0 0])] [some (.cells [.ref 1 0]),some (.cells (AG c++AD q++[.ints pos,.msl 2 1 0 ln])),some (.ints lost)] (.bool r.1) [some (.cells [.ref 1 0]),some (.cells (AG c++AD q++[.ints pos,.msl 2 1 0 ln])),some (.ints r.2)] false:=by
 refine ot Tryz.func88 fun B N=>?_
 revert r;apply gO
 exact jg lS (gc (gi (gc (gi (jg lQ (gc (gi (gc (gi (jt (gn fun g4=>jc (Ir g4 (tD c q pos ln lost)) (cn fun y1 A5=>fun p r h=>by
  refine gs Jo [0,1,2,3,4,5,6,7] p (GX (AZ Tryz.f88) 42 []) (AL 69 [(0,.ref 1 0),(3,.ref 3 0),(5,.i (c.cells.getD 0 0)),(6,.i (c.cells.getD 1 0)),(8,.ref 4 0),(9,.ref 5 0),(10,.ref 6 0),(42,.it 7)]) (tC c q pos ln lost) ?_;refine r0 7 42 #[43] Bs 8 A5 (oN n c q pos ln) ?_;cases y1 with
  | s0 DB DA Er=>
   dsimp only at h
   revert r;apply gO;exact ce FJ [1,2] (tB c q pos ln DB DA Er) fun y2=>ce FJ [1,2] (tA c q pos ln y2 DA Er) fun _=>lE Jo [4] [0,1,2]))))))))))))
def ZJ (n:Nat) (c:AB) (q:AA) (pos:List Int) (ln:Nat) (lost:List Int):Option (Bool×(List Int)):=
 (WS n c q pos ln lost).bind fun y1=>
  some (y1.1,y1.2)
def MK (n:Nat) (c:AB) (q:AA) (pos:List Int) (ln:Nat) (lost:List Int):Option (Bool×(List Int)):=ZJ n c q pos ln lost
theorem xW {n:Nat} {c:AB} {q:AA} {pos:List Int} {ln:Nat} {lost:List Int} {r:Bool×(List Int)} (h:MK n c q pos ln lost=some r):EQ 62 [.ref 0 0] [some (.cells (AG c++AD q++[.ints pos,.msl 1 1 0 ln])),some (.ints lost)] (.bool r.1) [some (.cells (AG c++AD q++[.ints pos,.msl 1 1 0 ln])),some (.ints r.2)] false:=by
 unfold MK ZJ at h;refine ot Tryz.func62 fun B N=>?_
 revert r;apply gO;exact ce oP [2,0,1] [some (.cells (AG c++AD q++[.ints pos,.msl 1 1 0 ln])),some (.ints lost),some (.cells [.ref 0 0])] fun _=>lE AE [2] [0,1]
def We (n:Nat) (c:AB) (q:AA) (pos:List Int) (ln:Nat) (lost:List Int):Option (Bool×(List Int)):=
 (WR n c q pos ln lost).bind fun y1=>
  some (y1.1,y1.2)
def LV (n:Nat) (c:AB) (q:AA) (pos:List Int) (ln:Nat) (lost:List Int):Option (Bool×(List Int)):=We n c q pos ln lost
theorem pA {n:Nat} {c:AB} {q:AA} {pos:List Int} {ln:Nat} {lost:List Int} {r:Bool×(List Int)} (h:LV n c q pos ln lost=some r):EQ 63 [.ref 0 0] [some (.cells (AG c++AD q++[.ints pos,.msl 1 1 0 ln])),some (.ints lost)] (.bool r.1) [some (.cells (AG c++AD q++[.ints pos,.msl 1 1 0 ln])),some (.ints r.2)] false:=by
 unfold LV We at h;refine ot Tryz.func63 fun B N=>?_
 revert r;apply gO;exact ce oM [2,0,1] [some (.cells (AG c++AD q++[.ints pos,.msl 1 1 0 ln])),some (.ints lost),some (.cells [.ref 0 0])] fun _=>lE AE [2] [0,1]
end Go.Proofs.YtekkngkphejfcaaGreatDoor
namespace Go.Proofs.YtekkngkphejfcaaGreatDoor
abbrev zA9:=@List.drop_zero
end Go.Proofs.YtekkngkphejfcaaGreatDoor
namespace Go.Proofs.YtekkngkphejfcaaGreatDoor
open Go.RowKit
set_option maxRecDepth 100000
set_option maxHeartbeats 40000000
def xL (n:Nat) (s_:List Int):Option Unit:=
 some ()
def xN (n:Nat) (s_:List Int):Option Unit:=xL n s_
theorem xK {n:Nat} (s_:List Int) {r:Unit} (h:xN n s_=some r):EQ 85 [.ints s_] [] (.fn 107 1 (L1 [.ref 0 0])) [some (.cells [.ints s_])] true:=by
 refine ot Tryz.func85 fun B N=>?_
 revert r;apply gO;exact lE AE [2] [0]
inductive OD where
 | l1 (x3:Int)
def MG (n:Nat) (self:OD -> Option (List (Int×Int))) (s_:List Int) (x3:Int):Option (List (Int×Int)):=
 bif (decide (x3>=0)) then
  if 0<=x3/\ x3<(s_.length:Int) then
   Option.map (fun l=>(x3,s_.getD ((x3).toNat) 0)::l) (
    if AH (x3-1) then
     self (.l1 (x3-1))
    else none)
  else none
 else
  some []
def Y6 (n:Nat) (self:OD -> Option (List (Int×Int))) (s_:List Int):Option (List (Int×Int)):=
 if AH ((s_.length:Int)-1) then
  self (.l1 ((s_.length:Int)-1))
 else none
def Ki (s_:List Int):Nat -> OD -> Option (List (Int×Int))
 | 0,_=>none
 | n+1,.l1 x3=>MG n (Ki s_ n) s_ x3
def back (n:Nat) (s_:List Int):Option (List (Int×Int)):=Y6 n (Ki s_ n) s_
def Y7 (C:Di Tryz.prog GG) (n:Nat) (s_:List Int) (r:List (Int×Int)):OD -> Prop
 | .l1 x3=>∀ m0:Nat,n<=m0 -> ∀ i:Nat,i<=C.encs.length -> C.encs.drop i=r.map MA -> Aq Tryz.prog GG Fence.wide none 1 (C.Y 1 i) (C.Q 1) (Ai m0 (Ap (AZ Tryz.f107) 0 [])) ⟨AL 19 [(0,.yl C.l),(1,.ref 0 0),(3,.i x3)],[some (.cells [.ints s_])]⟩
theorem xH (C:Di Tryz.prog GG) (n:Nat) (self:OD -> Option (List (Int×Int))) (s_:List Int) (AF: ∀ pt r,self pt=some r -> Y7 C n s_ r pt) (x3:Int) (r:List (Int×Int)) (h:MG n self s_ x3=some r):Y7 C (n+1) s_ r (.l1 x3):=by
 intro m0 AC;intro i hi hd;refine rd AC fun m0 AC=>?_
 unfold MG at h;have p:=H0;rcases JV h with ⟨c0,h⟩ | ⟨c0,h⟩
 ·have p:=H0.b 8 c0;refine gs (BQ 3 AE) [0] p (H3 (AZ Tryz.f107) 3 [m0]) (AL 19 [(0,.yl C.l),(1,.ref 0 0),(3,.i x3)]) [some (.cells [.ints s_])] ?_;obtain ⟨g0,h⟩:=E8 h;have p:=H0.g g0;obtain ⟨r,h2,rfl⟩:=dV h;clear h;have h:=h2;clear h2;obtain ⟨hx,hi,hd⟩:=gp hd;refine Aq.y (ops:=BA Tryz.f107 3) HC.x 6 [0,1,3,18] [0] p (x:=MA (x3,s_.getD ((x3).toNat) 0)) (AL 19 [(0,.yl C.l),(1,.ref 0 0),(3,.i x3),(18,.bool false)]) [some (.cells [.ints s_])] (AL 19 [(0,.yl C.l),(1,.ref 0 0),(3,.i x3),(18,.bool true)]) [some (.cells [.ints s_])] (by kernel_rfl) (by kernel_rfl) (by kernel_rfl) hx (by kernel_rfl) ?_ ?_
  ·generalize i+1=i at hi hd ⊢
   obtain ⟨g1,h⟩:=E8 h;have p:=H0.w 10 g1;exact gg AE [0] p (AF _ _ h m0 AC i hi hd)
  ·exact TrI.e HC.x AE 6 H0 (by kernel_rfl) (.inr rfl)
 ·have p:=H0.b 8 c0;cases h;exact TrI.e HC.x AE 10 p (by kernel_rfl) (.inl (by rw [Yk hi hd]))
theorem iU (C:Di Tryz.prog GG) (s_:List Int): ∀ (n:Nat) (pt:OD) (r:List (Int×Int)),Ki s_ n pt=some r -> Y7 C n s_ r pt
 | 0,_,_,h=>by cases h
 | n+1,.l1 x3,r,h=>xH C n (Ki s_ n) s_ (iU C s_ n) x3 r h
theorem xI {n:Nat} (s_:List Int) {r:List (Int×Int)} (h:back n s_=some r) (C:Di Tryz.prog GG) (hC:C.encs=r.map MA):Aq Tryz.prog GG Fence.wide none 1 (C.Y 1 0) (C.Q 1) [.code (AZ Tryz.f107)] ⟨AL 19 [(0,.yl C.l),(1,.ref 0 0)],[some (.cells [.ints s_])]⟩:=by
 suffices H: ∀ i:Nat,i<=C.encs.length -> C.encs.drop i=r.map MA -> Aq Tryz.prog GG Fence.wide none 1 (C.Y 1 i) (C.Q 1) [.code (AZ Tryz.f107)] ⟨AL 19 [(0,.yl C.l),(1,.ref 0 0)],[some (.cells [.ints s_])]⟩ from H 0 (zz _) (by rw [zA9];exact hC)
 intro i hi hd;have AF:=iU C s_ n;unfold back at h
 generalize Ki s_ n=self at h AF
 unfold Y6 at h;obtain ⟨g0,h⟩:=E8 h;have p:=H0.w 6 g0;exact gg AE [0] p (en n (AF _ _ h n Nat.le.refl i hi hd))
theorem xM {n:Nat} {s_:List Int} {r:List (Int×Int)} (h:back n s_=some r) (H:DH):EQ 85 [.ints s_] H (.it H.length) (H++[some (.iter (r.map MA))]) true:=by
 refine ES.iterN (c:=L1 [.ref 0 0]) (h0:=[some (.cells [.ints s_])]) (fn:=Tryz.f107) (xK (n:=0) s_ (r:=()) rfl) (by kernel_rfl) Tryz.func107 (by kernel_rfl) (by kernel_rfl) (by kernel_rfl) (fun C hC=>?_) H;have e:DV.yl C.l::(List.range 1).map (L1 [.ref 0 0])++List.replicate (Tryz.f107.ntmps-(1+1)) .any=AL 19 [(0,.yl C.l),(1,.ref 0 0)]:=by kernel_rfl
 rw [e];exact xI s_ h C hC
end Go.Proofs.YtekkngkphejfcaaGreatDoor
namespace Go.Proofs.YtekkngkphejfcaaGreatDoor
open Go.RowKit
set_option maxRecDepth 100000
set_option maxHeartbeats 40000000
def nM (n:Nat) (g_:List (List Int)) (Ac:List Bool) (start:Int):Option Unit:=
 some ()
def nN (n:Nat) (g_:List (List Int)) (Ac:List Bool) (start:Int):Option Unit:=nM n g_ Ac start
theorem nL {n:Nat} (g_:List (List Int)) (Ac:List Bool) (start:Int) {r:Unit} (h:nN n g_ Ac start=some r):EQ 114 [.sl 1 g_.length (Ak BD g_),.bools Ac,.i start] [] (.fn 127 3 (L1 [.ref 0 0,.ref 1 0,.ref 2 0])) [some (.cells [.sl 1 g_.length (Ak BD g_)]),some (.cells [.i start]),some (.cells [.bools Ac])] true:=by
 refine ot Tryz.func114 fun B N=>?_
 revert r;apply gO;exact lE AE [6] [0,2,1]
theorem lI:Aj (BA Tryz.f127 6) [] (List.range 8) []:=by unfold Aj;kernel_rfl
def HO:BU:=fun i=>match i with
 | 6=>.ord [] (List.range 8) []
 | _=>.no
def T3 (g:List (List Int)) (start:Int) (inn o3:List Bool) (o4:List Int):DH:=[some (.cells [.sl 1 g.length (Ak BD g)]),some (.cells [.i start]),some (.cells [.bools inn]),some (.bools o3),some (.ints o4)]
inductive zIO where
 | l1 (x6:Nat) (o3:List Bool) (o4:List Int)
 | l2 (x6:Nat) (BX:List Int) (CF BH:Int) (o3:List Bool) (o4:List Int)
 | l3 (o3:List Bool)
def LE (n:Nat) (self:zIO -> Option (List Int)) (g:List (List Int)) (start:Int) (inn:List Bool) (x6:Nat) (o3:List Bool) (o4:List Int):Option (List Int):=
 bif (decide ((x6:Int)>0)) then
  if ((0:Int)<=0/\ 0<(x6:Int))/\ 0+0<o4.length then
   Option.map (fun l=>(o4.getD (0+0) 0)::l) (
    if ((0:Int)<=0/\ 0<(x6:Int))/\ 0+0<o4.length/\ (0<=(o4.getD (0+0) 0)/\ (o4.getD (0+0) 0)<(g.length:Int)) then
     self (.l2 x6 (g.getD ((o4.getD (0+0) 0).toNat) []) (((g.getD ((o4.getD (0+0) 0).toNat) []).length:Nat):Int) 0 o3 o4)
    else none)
  else none
 else
  some []
def I1 (n:Nat) (self:zIO -> Option (List Int)) (g:List (List Int)) (start:Int) (inn:List Bool) (x6:Nat) (BX:List Int) (CF BH:Int) (o3:List Bool) (o4:List Int):Option (List Int):=
 bif (decide (BH<CF)) then
  if (0<=BH/\ BH<(BX.length:Int))/\ (0<=(BX.getD ((BH).toNat) 0)/\ (BX.getD ((BH).toNat) 0)<(inn.length:Int)) then
   bif (inn.getD ((BX.getD ((BH).toNat) 0).toNat) false) then
    if (0<=(BX.getD ((BH).toNat) 0)/\ (BX.getD ((BH).toNat) 0)<(g.length:Int))/\ 0+((BX.getD ((BH).toNat) 0).toNat)<o3.length then
     bif (!(o3.getD (0+((BX.getD ((BH).toNat) 0).toNat)) false)) then
      if ((0=0/\ 1=([BX.getD ((BH).toNat) 0]:List Int).length)/\ (0=0/\ x6=o4.length)/\ o4.length+([BX.getD ((BH).toNat) 0]:List Int).length<=BT)/\ AH (BH+1) then
       self (.l2 (o4.length+([BX.getD ((BH).toNat) 0]:List Int).length) BX CF (BH+1) (o3.set (0+((BX.getD ((BH).toNat) 0).toNat)) true) (o4++([BX.getD ((BH).toNat) 0]:List Int)))
      else none
     else
      if AH (BH+1) then
       self (.l2 x6 BX CF (BH+1) o3 o4)
      else none
    else none
   else
    if AH (BH+1) then
     self (.l2 x6 BX CF (BH+1) o3 o4)
    else none
  else none
 else
  bif ((x6-1)==0) then
   if (0:Int)<=1/\ (1:Int)<=(x6:Int)/\ (x6:Int)<=(x6:Int) then
    self (.l3 o3)
   else none
  else
   if (0:Int)<=1/\ (1:Int)<=(x6:Int)/\ (x6:Int)<=(x6:Int) then
    if 1<=o4.length then
     self (.l1 (x6-1) o3 (o4.drop 1))
    else none
   else none
def V7 (n:Nat) (self:zIO -> Option (List Int)) (g:List (List Int)) (start:Int) (inn:List Bool) (o3:List Bool):Option (List Int):=
 some []
def V8 (n:Nat) (self:zIO -> Option (List Int)) (g:List (List Int)) (start:Int) (inn:List Bool):Option (List Int):=
 if (((g.length:Int):Int)=(g.length:Int)/\ 0<=(g.length:Int)/\ ((g.length:Int):Int)<=1000000000000)/\ (0<=start/\ start<(g.length:Int))/\ 0+((start).toNat)<(List.replicate g.length false).length then
  self (.l1 1 ((List.replicate g.length false).set (0+((start).toNat)) true) ([start]:List Int))
 else none
def Dp (g:List (List Int)) (start:Int) (inn:List Bool):Nat -> zIO -> Option (List Int)
 | 0,_=>none
 | n+1,.l1 x6 o3 o4=>LE n (Dp g start inn n) g start inn x6 o3 o4
 | n+1,.l2 x6 BX CF BH o3 o4=>I1 n (Dp g start inn n) g start inn x6 BX CF BH o3 o4
 | n+1,.l3 o3=>V7 n (Dp g start inn n) g start inn o3
def Fc (n:Nat) (g:List (List Int)) (start:Int) (inn:List Bool):Option (List Int):=V8 n (Dp g start inn n) g start inn
def LF (C:Di Tryz.prog GG) (n:Nat) (g:List (List Int)) (start:Int) (inn:List Bool) (r:List Int):zIO -> Prop
 | .l1 x6 o3 o4=>∀ m0:Nat,n<=m0 -> ∀ i:Nat,i<=C.encs.length -> C.encs.drop i=r.map Bs -> Aq Tryz.prog GG Fence.wide none 3 (C.Y 3 i) (C.Q 3) (Ai m0 (Ap (AZ Tryz.f127) 0 [])) ⟨AL 58 [(0,.yl C.l),(1,.ref 0 0),(3,.ref 2 0),(5,.msl 3 1 0 g.length),(6,.msl 4 1 0 x6)],[some (.cells [.sl 1 g.length (Ak BD g)]),some (.cells [.i start]),some (.cells [.bools inn]),some (.bools o3),some (.ints o4)]⟩
 | .l2 x6 BX CF BH o3 o4=>∀ m0 m1:Nat,n<=m0 -> n<=m1 -> ∀ i:Nat,i<=C.encs.length -> C.encs.drop i=r.map Bs -> Aq Tryz.prog GG Fence.wide none 3 (C.Y 3 i) (C.Q 3) (Ai m1 (Ap (AZ Tryz.f127) 2 [m0])) ⟨AL 58 [(0,.yl C.l),(1,.ref 0 0),(3,.ref 2 0),(5,.msl 3 1 0 g.length),(6,.msl 4 1 0 x6),(33,.ints BX),(34,.i CF),(35,.i BH)],[some (.cells [.sl 1 g.length (Ak BD g)]),some (.cells [.i start]),some (.cells [.bools inn]),some (.bools o3),some (.ints o4)]⟩
 | .l3 o3=>∀ m0:Nat,n<=m0 -> ∀ i:Nat,i<=C.encs.length -> C.encs.drop i=r.map Bs -> Aq Tryz.prog GG Fence.wide none 3 (C.Y 3 i) (C.Q 3) (Ai m0 (Ap (AZ Tryz.f127) 0 [])) ⟨AL 58 [(0,.yl C.l),(1,.ref 0 0),(3,.ref 2 0),(5,.msl 3 1 0 g.length),(6,.ints ([]:List Int))],[some (.cells [.sl 1 g.length (Ak BD g)]),some (.cells [.i start]),some (.cells [.bools inn]),some (.bools o3)]⟩
theorem nH (C:Di Tryz.prog GG) (n:Nat) (self:zIO -> Option (List Int)) (g:List (List Int)) (start:Int) (inn:List Bool) (AF: ∀ pt r,self pt=some r -> LF C n g start inn r pt) (x6:Nat) (o3:List Bool) (o4:List Int) (r:List Int) (h:LE n self g start inn x6 o3 o4=some r):LF C (n+1) g start inn r (.l1 x6 o3 o4):=by
 intro m0 AC;intro i hi hd;refine rd AC fun m0 AC=>?_
 unfold LE at h;have p:=H0;rcases JV h with ⟨c0,h⟩ | ⟨c0,h⟩
 ·have p:=H0.b 19 c0;refine gs (BQ 5 HO) [0,1,2,3,4] p (H3 (AZ Tryz.f127) 5 [m0]) (AL 58 [(0,.yl C.l),(1,.ref 0 0),(3,.ref 2 0),(5,.msl 3 1 0 g.length),(6,.msl 4 1 0 x6)]) (T3 g start inn o3 o4) ?_;obtain ⟨⟨g0,g1⟩,h⟩:=E8 h;have p:=H0.g g0 |>.g g1
  obtain ⟨r,h2,rfl⟩:=dV h;clear h;have h:=h2;clear h2;obtain ⟨hx,hi,hd⟩:=gp hd;refine Aq.y (ops:=BA Tryz.f127 5) HC.x 4 [0,1,3,5,6,27] [0,1,2,3,4] p (x:=Bs (o4.getD (0+0) 0)) (AL 58 [(0,.yl C.l),(1,.ref 0 0),(3,.ref 2 0),(5,.msl 3 1 0 g.length),(6,.msl 4 1 0 x6),(27,.bool false)]) (T3 g start inn o3 o4) (AL 58 [(0,.yl C.l),(1,.ref 0 0),(3,.ref 2 0),(5,.msl 3 1 0 g.length),(6,.msl 4 1 0 x6),(27,.bool true)]) (T3 g start inn o3 o4) (by kernel_rfl) (by kernel_rfl) (by kernel_rfl) hx (by kernel_rfl) ?_ ?_
  ·generalize i+1=i at hi hd ⊢
   obtain ⟨⟨g2,g3,g4⟩,h⟩:=E8 h;have p:=H0.g lI |>.g g2 |>.g g3 |>.g g4
   exact gg HO [0,1,2,3,4] p (en n (AF _ _ h m0 n AC Nat.le.refl i hi hd))
  ·exact TrI.e HC.x HO 6 H0 (by kernel_rfl) (.inr rfl)
 ·have p:=H0.b 19 c0;cases h;exact TrI.e HC.x HO 10 p (by kernel_rfl) (.inl (by rw [Yk hi hd]))
theorem nF (C:Di Tryz.prog GG) (n:Nat) (self:zIO -> Option (List Int)) (g:List (List Int)) (start:Int) (inn:List Bool) (AF: ∀ pt r,self pt=some r -> LF C n g start inn r pt) (x6:Nat) (BX:List Int) (CF BH:Int) (o3:List Bool) (o4:List Int) (r:List Int) (h:I1 n self g start inn x6 BX CF BH o3 o4=some r):LF C (n+1) g start inn r (.l2 x6 BX CF BH o3 o4):=by
 intro m0 m1 AC Af;intro i hi hd;have AC:=yw AC;refine rd Af fun m1 Af=>?_
 unfold I1 at h;have p:=H0;rcases JV h with ⟨c0,h⟩ | ⟨c0,h⟩
 ·obtain ⟨⟨g0,g1⟩,h⟩:=E8 h;have p:=H0.b 36 c0 |>.g g0 |>.g g1
  rcases JV h with ⟨c1,h⟩ | ⟨c1,h⟩
  ·obtain ⟨⟨g2,g3⟩,h⟩:=E8 h;have p:=p.b 42 c1 |>.g g2 |>.g g3
   rcases JV h with ⟨c2,h⟩ | ⟨c2,h⟩
   ·obtain ⟨⟨g4,g5⟩,h⟩:=E8 h;have p:=p.b 48 c2 |>.g g2 |>.g g3 |>.g g4 |>.w 57 g5
    exact gg HO [0,1,2,3,6] p (AF _ _ h m0 m1 AC Af i hi hd)
   ·obtain ⟨g4,h⟩:=E8 h;have p:=p.b 48 c2 |>.w 57 g4
    exact gg HO [0,1,2,3,4] p (AF _ _ h m0 m1 AC Af i hi hd)
  ·obtain ⟨g2,h⟩:=E8 h;have p:=p.b 42 c1 |>.w 57 g2
   exact gg HO [0,1,2,3,4] p (AF _ _ h m0 m1 AC Af i hi hd)
 ·have p:=H0.b 36 c0;rcases JV h with ⟨c1,h⟩ | ⟨c1,h⟩
  ·obtain ⟨g0,h⟩:=E8 h;have p:=p.g g0 |>.o 21 (AN.mse_nil (k:=4) (m:=1) (o:=1) (eq_of_beq c1))
   exact gg HO [0,1,2,3] p (AF _ _ h m0 AC i hi hd)
  ·obtain ⟨g0,h⟩:=E8 h;have p:=p.g g0 |>.o 21 (AN.mse_msl (k:=4) (m:=1) (o:=1) (Sq c1) rfl)
   obtain ⟨g1,h⟩:=E8 h;refine gs HO [0,1,2,3,4] p (Ai m0 (Ap (AZ Tryz.f127) 0 [])) (AL 58 [(0,.yl C.l),(1,.ref 0 0),(3,.ref 2 0),(5,.msl 3 1 0 g.length),(6,.msl 4 1 1 (x6-1))]) (T3 g start inn o3 o4) ?_;refine BJ.le (BF.rootE 4 1 ⟨AL 58 [(0,.yl C.l),(1,.ref 0 0),(3,.ref 2 0),(5,.msl 3 1 0 g.length),(6,.msl 5 1 0 (x6-1))],[some (.cells [.sl 1 g.length (Ak BD g)]),some (.cells [.i start]),some (.cells [.bools inn]),some (.bools o3),none,some (.ints (o4.drop 1))]⟩ [1<=o4.length] (by kernel_rfl) ⟨g1,trivial⟩) (by kernel_rfl) ?_;refine BJ.le (BF.compE [0,1,2,3,5] (by kernel_rfl)) (by kernel_rfl) ?_;exact AF _ _ h m0 AC i hi hd
theorem nE (C:Di Tryz.prog GG) (n:Nat) (self:zIO -> Option (List Int)) (g:List (List Int)) (start:Int) (inn:List Bool) (AF: ∀ pt r,self pt=some r -> LF C n g start inn r pt) (o3:List Bool) (r:List Int) (h:V7 n self g start inn o3=some r):LF C (n+1) g start inn r (.l3 o3):=by
 intro m0 AC;intro i hi hd;refine rd AC fun m0 AC=>?_
 unfold V7 at h;have p:=H0;cases h;exact TrI.e HC.x HO 10 p (by kernel_rfl) (.inl (by rw [Yk hi hd]))
theorem SY (C:Di Tryz.prog GG) (g:List (List Int)) (start:Int) (inn:List Bool): ∀ (n:Nat) (pt:zIO) (r:List Int),Dp g start inn n pt=some r -> LF C n g start inn r pt
 | 0,_,_,h=>by cases h
 | n+1,.l1 x6 o3 o4,r,h=>nH C n (Dp g start inn n) g start inn (SY C g start inn n) x6 o3 o4 r h
 | n+1,.l2 x6 BX CF BH o3 o4,r,h=>nF C n (Dp g start inn n) g start inn (SY C g start inn n) x6 BX CF BH o3 o4 r h
 | n+1,.l3 o3,r,h=>nE C n (Dp g start inn n) g start inn (SY C g start inn n) o3 r h
theorem nK {n:Nat} (g:List (List Int)) (start:Int) (inn:List Bool) {r:List Int} (h:Fc n g start inn=some r) (C:Di Tryz.prog GG) (hC:C.encs=r.map Bs):Aq Tryz.prog GG Fence.wide none 3 (C.Y 3 0) (C.Q 3) [.code (AZ Tryz.f127)] ⟨AL 58 [(0,.yl C.l),(1,.ref 0 0),(2,.ref 1 0),(3,.ref 2 0)],[some (.cells [.sl 1 g.length (Ak BD g)]),some (.cells [.i start]),some (.cells [.bools inn])]⟩:=by
 suffices H: ∀ i:Nat,i<=C.encs.length -> C.encs.drop i=r.map Bs -> Aq Tryz.prog GG Fence.wide none 3 (C.Y 3 i) (C.Q 3) [.code (AZ Tryz.f127)] ⟨AL 58 [(0,.yl C.l),(1,.ref 0 0),(2,.ref 1 0),(3,.ref 2 0)],[some (.cells [.sl 1 g.length (Ak BD g)]),some (.cells [.i start]),some (.cells [.bools inn])]⟩ from H 0 (zz _) (by rw [zA9];exact hC)
 intro i hi hd;have AF:=SY C g start inn n;unfold Fc at h
 generalize Dp g start inn n=self at h AF
 unfold V8 at h;obtain ⟨⟨g0,g1,g2⟩,h⟩:=E8 h;have p:=H0.g g0 |>.g g1 |>.g g2
 exact gg HO [0,1,2,3,4] p (en n (AF _ _ h n Nat.le.refl i hi hd))
theorem WA {n:Nat} {g_:List (List Int)} {Ac:List Bool} {start:Int} {r:List Int} (h:Fc n g_ start Ac=some r) (H:DH):EQ 114 [.sl 1 g_.length (Ak BD g_),.bools Ac,.i start] H (.it H.length) (H++[some (.iter (r.map Bs))]) true:=by
 refine ES.iterN (c:=L1 [.ref 0 0,.ref 1 0,.ref 2 0]) (h0:=[some (.cells [.sl 1 g_.length (Ak BD g_)]),some (.cells [.i start]),some (.cells [.bools Ac])]) (fn:=Tryz.f127) (nL (n:=0) g_ Ac start (r:=()) rfl) (by kernel_rfl) Tryz.func127 (by kernel_rfl) (by kernel_rfl) (by kernel_rfl) (fun C hC=>?_) H;have e:DV.yl C.l::(List.range 3).map (L1 [.ref 0 0,.ref 1 0,.ref 2 0])++List.replicate (Tryz.f127.ntmps-(3+1)) .any=AL 58 [(0,.yl C.l),(1,.ref 0 0),(2,.ref 1 0),(3,.ref 2 0)]:=by kernel_rfl
 rw [e];exact nK g_ start Ac h C hC
end Go.Proofs.YtekkngkphejfcaaGreatDoor
