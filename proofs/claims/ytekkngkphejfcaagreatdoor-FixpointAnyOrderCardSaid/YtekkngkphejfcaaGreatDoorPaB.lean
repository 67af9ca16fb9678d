/- Part 2 of 6 of what the proofs of these laws stand on. -/
import Derived.Test.YtekkngkphejfcaaGreatDoorPaA
import Derived.Test.YtekkngkphejfcaaGreatDoorProg
import Derived.Shelf.Spec.TrailingZeros
set_option linter.all false
namespace Go.Proofs.YtekkngkphejfcaaGreatDoor
abbrev zL:=@List.getElem?_replicate
abbrev zAm:=@Array.getElem?_replicate
end Go.Proofs.YtekkngkphejfcaaGreatDoor
namespace Go.Proofs.YtekkngkphejfcaaGreatDoor
open Go.RowKit
def TL (P:Program) (t:TypeId):Option (Nat×TypeId×TypeInfo):=match P.underlying t with
 | some (.slice e)=>match Lb P e with
  | some (n,_)=>match P.info? e with
   | some i=>match i.zero with
    | some (.map none)=>if i.size=1/\ i.bytes<=128 then some (n,e,i) else none
    | _=>none
   | none=>none
  | none=>none
 | _=>none
theorem pL {P:Program} {t e:TypeId} {n:Nat} {i:TypeInfo} (h:TL P t=some (n,e,i)):P.underlying t=some (.slice e)/\ P.info? e=some i/\ i.zero=some (.map none)/\ i.size=1/\ i.bytes<=128:=by
 unfold TL at h;split at h
 ·rename_i e' hu;split at h
  ·split at h
   ·rename_i i' hi;split at h
    ·rename_i hz;split at h
     ·rename_i hc;cases h;exact ⟨hu,hi,hz,hc.1,hc.2⟩
     ·cases h
    ·cases h
   ·cases h
  ·cases h
 ·cases h
section
variable {P:Program} {Γ:Au} {N:Nat -> Prop} {S:St} {ρ:List AI} {a:Act} {w:World} {h:DH}
theorem nA {α:Type} {n j:Nat} {x y:α} (h:(List.replicate n x)[j]? =some y):x=y:=by
 rw [zL] at h;split at h
 ·exact yK h
 ·cases h
theorem pQ (R:AX P Γ N S ρ a w) {t e:TypeId} {x y:Operand} {n:Nat} {i:TypeInfo} {kx ky:IntKind} {m:Int} (hT:TL P t=some (n,e,i)) (hx:AY S.fr x= .int kx m) (hy:AY S.fr y= .int ky m)
 (hn:0<=m/\ m<=1000000000000) (o:Oper) (ho:o.op= .makeSlice t x y) (ext:Bool):
 BN P (execOp a.eval o) w (C9 P Γ N S.h ρ w ext (.msl S.h.length 1 0 m.toNat) (S.h++[some (.mo (.sets n (List.replicate m.toNat none) none))])):=by
 obtain ⟨hu,hi,hz,hs,EP⟩:=pL hT;have G4:=hn.1;have Ic:=hn.2;have rx:=Bj R x;have ry:=Bj R y;rw [hx] at rx;rw [hy] at ry;have Dd:(madeCells (Value.map none).cells (m.toNat*i.size)).size=m.toNat:=by rw [size_madeCells,hs,zD]
 have C1: ∀ j,j<m.toNat -> (madeCells (Value.map none).cells (m.toNat*i.size))[j]? =some (Value.map none):=fun j hj=>by
  simp [madeCells,hs,hj,Value.cells,Nat.mod_one]
 refine BN.value (s:=Instr.makeSlice t (a.eval x) (a.eval y)) (by unfold execOp;rw [ho]) (v:=.slice (some ⟨w.heap.size,0,none⟩) m.toNat m.toNat) (w':=w.alloc (.cells (madeCells (Value.map none).cells (m.toNat*i.size)) e)) ?_ ?_
 ·rw [show a.eval x=_ from rx,show a.eval y=_ from ry];refine run_make w t e i _ hu hi hz kx ky m m G4 (zV _) ?_ (by omega);have:(i.bytes:Int)*m<=128*1000000000000:=Int.mul_le_mul (by omega) Ic G4 (by omega);omega
 ·generalize hC:madeCells (Value.map none).cells (m.toNat*i.size)=cs at Dd C1 ⊢
  refine UM (ob:=.cells cs e) (o:=.mo (.sets n (List.replicate m.toNat none) none)) (d:=.msl S.h.length 1 0 m.toNat) (pl:=⟨w.heap.size,0,cs.size,.tuple (Array.replicate m.toNat (Value.map none)),fun b=>b=w.heap.size⟩) R.hr rfl rfl (fun M ρ'=>?_) (fun M ρ' hp=>⟨_,m.toNat,hp,by simp,yf _,by unfold LB;omega,by simp [Dd]⟩) ext;refine ⟨Array.replicate m.toNat (Value.map none),rfl,by simp,⟨cs,e,zAL w _,by simp [Dd],yf _,fun j hj=>?_⟩,rfl,fun j l hj=>?_,fun j hj=>?_,fun b hb=>.inl hb,fun i j b h1 h2=>?_⟩
  ·rw [yY] at hj
   show cs[0+j]? =_
   rw [yX,C1 j hj,zAm,yC hj]
  ·have:=nA hj;cases this
  ·have BI:=(yJ.1 hj).1;rw [yY] at BI;rw [zAm,yC BI]
  ·rw [zAm] at h1;split at h1 <;> cases h1
theorem BK.merge (H:BK P Γ N h ρ w) {w':World} {k j:Nat} {o oj o':DO} {p q p':AI} (X7:k≠j) (hk:h[k]? =some (some o)) (hp:ρ[k]? =some p) (hj:h[j]? =some (some oj)) (hq:ρ[j]? =some q) (hu:AM p.foot w w') (hf: ∀ b,p'.foot b -> (p.foot b∨q.foot b)/\ Dh w' b)
 (ho:Cp P (MS N ((h.set k none).set j none++[some o']) (ρ++[p'])) w' (ρ++[p']) p' o'):
 BK P Γ N ((h.set k none).set j none++[some o']) (ρ++[p']) w'/\ A8 h ρ w ((h.set k none).set j none++[some o']) (ρ++[p']) w':=by
 have Ae:((h.set k none).set j none).length=h.length:=by simp
 have hM: ∀ b,p.foot b -> MO h ρ b:=fun b hb=>⟨k,o,p,hk,hp,hb⟩
 have uh: ∀ b,q.foot b -> MO h ρ b:=fun b hb=>⟨j,oj,q,hj,hq,hb⟩
 have f5: ∀ {i:Nat} {o1:DO},((h.set k none).set j none)[i]? =some (some o1) -> i≠k/\ i≠j/\ h[i]? =some (some o1):=fun {i o1} hi=>by
  obtain ⟨e1,e2⟩:=FT hi;obtain ⟨e3,e4⟩:=FT e2;exact ⟨e3,e1,e4⟩
 have Hf: ∀ {i:Nat} {o1:DO} {p1:AI},((h.set k none).set j none++[some o'])[i]? =some (some o1) -> (ρ++[p'])[i]? =some p1 -> (i≠k/\ i≠j/\ i<h.length/\ h[i]? =some (some o1)/\ ρ[i]? =some p1)∨(i=h.length/\ o1=o'/\ p1=p'):=by
  intro i o1 p1 h1 h2;rcases C2 h1 with ⟨hl,h1⟩ | ⟨hl,h1⟩
  ·rw [Ae] at hl;rcases C2 h2 with ⟨_,h2⟩ | ⟨CU,_⟩
   ·obtain ⟨e1,e2,e3⟩:=f5 h1;exact .inl ⟨e1,e2,hl,e3,h2⟩
   ·rw [H.len] at CU;omega
  ·rw [Ae] at hl;rcases C2 h2 with ⟨CU,_⟩ | ⟨_,h2⟩
   ·rw [H.len] at CU;omega
   ·cases h1;exact .inr ⟨hl,rfl,h2.symm⟩
 have grow: ∀ b,MO ((h.set k none).set j none++[some o']) (ρ++[p']) b -> MO h ρ b:=by
  rintro b ⟨i,o1,p1,h1,h2,h3⟩;rcases Hf h1 h2 with ⟨_,_,_,g1,g2⟩ | ⟨_,_,rfl⟩
  ·exact ⟨i,o1,p1,g1,g2,h3⟩
  ·exact (hf b h3).1.elim (hM b) (uh b)
 have O:BM (MS N h ρ) w ρ (MS N ((h.set k none).set j none++[some o']) (ρ++[p'])) w' (ρ++[p']):=
  ⟨fun b hb hm _=>hu.block b hb fun hx=>hm (.inr (hM b hx)),fun b hb=>.inl (hb.imp id (grow b)),fun i q hi=>De hi⟩
 refine ⟨⟨by simp [H.len],fun i o1 hi=>?_,fun i o1 p1 b h1 h2 h3=>?_,fun i i' o1 o2 p1 p2 b AV h1 h2 h3 h4 h5 h6=>?_,fun b hb=>⟨yN (H.nlt b hb).1 hu.size,(H.nlt b hb).2⟩,Γ.st _ _ H.gi (hu.mono fun b _ hb=>(H.cel k o p b hk hp hb).1)⟩,⟨hu.mono fun b _ hb=>hM b hb,fun b hb=>.inl (grow b hb)⟩⟩
 ·rcases C2 hi with ⟨hl,hi⟩ | ⟨hl,hi⟩
  ·obtain ⟨e1,e2,e3⟩:=f5 hi;obtain ⟨p1,KF,hr⟩:=H.obj i o1 e3;exact ⟨p1,De KF,hr.out O hu (fun b hb=>.inr (hM b hb)) fun b _ h1 h2=>H.dis i k o1 o p1 p b e1 e3 hk KF hp h1 h2⟩
  ·cases hi;exact ⟨p',by rw [hl,Ae,←H.len];simp,ho⟩
 ·rcases Hf h1 h2 with ⟨AV,_,_,g1,g2⟩ | ⟨_,_,rfl⟩
  ·obtain ⟨e1,e2,c,t,z,e3⟩:=H.cel i o1 p1 b g1 g2 h3;exact ⟨e1,e2,c,t,z,(hu.block b (yE.1 e3).1 fun hx=>H.dis i k o1 o p1 p b AV g1 hk g2 hp h3 hx).trans e3⟩
  ·obtain ⟨e1,e2⟩:=hf b h3;rcases e1 with e1 | e1
   ·obtain ⟨q1,q2,_⟩:=H.cel k o p b hk hp e1;exact ⟨q1,q2,e2⟩
   ·obtain ⟨q1,q2,_⟩:=H.cel j oj q b hj hq e1;exact ⟨q1,q2,e2⟩
 ·have key: ∀ {i o1 p1},i≠k -> i≠j -> h[i]? =some (some o1) -> ρ[i]? =some p1 -> p1.foot b -> p'.foot b -> False:=fun {i o1 p1} AV Lt g1 g2 g3 g4=>by
   rcases (hf b g4).1 with e1 | e1
   ·exact H.dis i k o1 o p1 p b AV g1 hk g2 hp g3 e1
   ·exact H.dis i j o1 oj p1 q b Lt g1 hj g2 hq g3 e1
  rcases Hf h1 h3 with ⟨QQ,Lt,_,g1,g2⟩ | ⟨e1,_,rfl⟩
  ·rcases Hf h2 h4 with ⟨hne3,_,_,g3,g4⟩ | ⟨e2,_,rfl⟩
   ·exact H.dis i i' o1 o2 p1 p2 b AV g1 g3 g2 g4 h5 h6
   ·exact key QQ Lt g1 g2 h5 h6
  ·rcases Hf h2 h4 with ⟨QQ,Lt,_,g1,g2⟩ | ⟨e2,_,rfl⟩
   ·exact key QQ Lt g1 g2 h6 h5
   ·exact AV (e1.trans e2.symm)
def J7 (k k':Nat):DV -> DV
 | .msl k1 m o n=>if k1=k then .msl k' m o n else .msl k1 m o n
 | d=>d
def Vm (P:Program) (S:St) (o:Oper):Option (St×List Prop):=match o.op with
 | .store t x y=>match o.dst with
  | none=>match AY S.fr x with
   | .mp k 1 i 0=>match AY S.fr y with
    | .it j=>match S.h[k]? with
     | some (some (.mo (.sets n ls none)))=>match S.h[j]? with
      | some (some (.mo (.set n' l)))=>if n'=n/\ (P.info? t).any (fun i=>i.size==1)=true then some (⟨S.fr.map (J7 k S.h.length),(S.h.set k none).set j none++[some (.mo (.sets n (ls.set i (some l)) none))]⟩,[i<ls.length]) else none
      | _=>none
     | _=>none
    | _=>none
   | _=>none
  | some _=>none
 | _=>none
theorem EY.of_map {p:AI} {n:Nat} {ls:List (Option KS)} {lk:Option (Nat×Nat×Array MapEntry×Nat)} {vs:Array Value} (hS:EY w p n ls lk vs) {i b:Nat} (h:vs[i]? =some (Value.map (some b))): ∃ l,ls[i]? =some (some l)/\ p.foot b/\ b≠p.blk/\ ∃ es AR,EI w b n l es AR:=by
 have hi:i<ls.length:=by rw [←hS.size];exact (yE.1 h).1
 cases hl:ls[i] with
 | none=>
  have:=hS.nil i (by rw [xz hi,hl]);rw [this] at h;cases h
 | some l=>
  have Dt:ls[i]? =some (some l):=by rw [xz hi,hl]
  obtain ⟨b',g1,g2,g3,es,AR,g4,_⟩:=hS.has i l Dt;have:b'=b:=by rw [g1] at h;cases h;rfl
  subst this;exact ⟨l,Dt,g3,g2,es,AR,g4⟩
theorem kG (R:AX P Γ N S ρ a w) {o:Oper} {S':St} {vs:List Prop} (h:Vm P S o=some (S',vs)) (hv:Bc vs):
 BN P (execOp a.eval o) w (fun v w'=>(∃ ρ',AX P Γ N S' ρ' (a.put o.dst v) w'/\ EH S.h ρ w S'.h ρ' w')/\ ∃ k i p t x y,o.op= .store t x y/\ AY S.fr x= .mp k 1 i 0/\ ρ[k]? =some p/\ AM p.foot w w'):=by
 unfold Vm at h;split at h
 case h_2=>cases h
 rename_i t x y ho;split at h
 case h_2=>cases h
 rename_i uI;split at h
 case h_2=>cases h
 rename_i k i hX;split at h
 case h_2=>cases h
 rename_i j hY;split at h
 case h_2=>cases h
 rename_i n ls hK;split at h
 case h_2=>cases h
 rename_i n' l hJ;split at h
 case isFalse=>cases h
 rename_i hc;cases h;obtain ⟨tR,A2⟩:=hc;subst tR;have hi:i<ls.length:=hv.1;have rx:=Bj R x;have ry:=Bj R y;rw [hX] at rx;rw [hY] at ry;obtain ⟨p,hp,ex⟩:=rx;obtain ⟨q,es,AR,hq,ey,eO,hqv,hA⟩:=Vu R hJ ry;obtain ⟨p',A6,MV,hS⟩:=R.hr.obj k _ hK;have:p'=p:=yK (A6.symm.trans hp);subst this;have X7:k≠j:=fun e=>by subst e;rw [hK] at hJ;cases hJ
 obtain ⟨cs,ty,hb,FS,CU,C1⟩:=hS.row;cases Xd:P.info? t with
 | none=>rw [Xd] at A2;cases A2
 | some ti=>
 rw [Xd] at A2;have NL:ti.size=1:=by simpa using A2
 have fF:i<MV.size:=by rw [hS.size];exact hi
 have Xk: ∀ b,p'.foot b -> b≠q.blk:=fun b hb e=>R.hr.dis k j _ _ p' q b X7 hK hJ hp hq hb (by rw [eO];exact e)
 have vg:a.eval x= .pointer (some ⟨p'.blk,p'.off+i,none⟩):=by rw [ex];simp
 have BP:w.cell? ⟨p'.blk,p'.off+i,none⟩=some MV[i]:=by
  unfold World.cell?;simp only [hb];rw [C1 i hi,zN fF];rfl
 have Ie: ∀ jj,w.frozen? ⟨p'.blk,jj,none⟩=false:=fun jj=>by unfold World.frozen?;simp [hb]
 have hU:AM p'.foot w (w.setCells p'.blk (p'.off+i) (a.eval y).cells.toList):=(OU _ _ _ _).mono fun b _ e=>by rw [show b=p'.blk from e];exact hS.blk
 refine BN.skip (s:=Instr.storeAt t (a.eval x) (a.eval y)) (by unfold execOp;rw [ho]) (w':=w.setCells p'.blk (p'.off+i) (a.eval y).cells.toList) ?_ ?_
 ·rw [vg];refine bQ Xd (by rw [ey,NL];rfl) (fun jj QW=>?_) Ie (fun u hu=>?_)
  ·rw [ey] at QW;have:jj=0:=by simpa [Value.cells] using QW
   subst this;rw [zAO,BP];rfl
  ·rw [ey] at hu;have:u= .map (some q.blk):=by simpa [Value.cells] using hu
   subst this;rfl
 ·rw [uI];rw [ey] at hU ⊢;have eC:(Value.map (some q.blk)).cells.toList= [Value.map (some q.blk)]:=rfl;rw [eC] at hU ⊢;obtain ⟨EV,e1,e2,e3⟩:=Qe p'.blk ty (0,0) [Value.map (some q.blk)] (p'.off+i) w cs hb (by simp;omega)
  generalize hW:w.setCells p'.blk (p'.off+i) [Value.map (some q.blk)]=W at hU e1 ⊢
  have BZ: ∀ {b ob},b≠p'.blk -> w.heap[b]? =some ob -> W.heap[b]? =some ob:=fun {b ob} AV Cn=>by
   rw [←Cn,←hW];exact (OU p'.blk [Value.map (some q.blk)] (p'.off+i) w).block b (yE.1 Cn).1 AV
  have cF:q.blk≠p'.blk:=fun e=>Xk p'.blk hS.blk e.symm
  let Bm:=MV.setIfInBounds i (Value.map (some q.blk))
  have Gy: ∀ m:Nat,Bm[m]? =if i=m then some (Value.map (some q.blk)) else MV[m]? :=fun m=>by
   show (MV.setIfInBounds i _)[m]? =_
   rw [zb]
   by_cases e:i=m
   ·rw [yC e,yC e,yC fF]
   ·rw [yM e,yM e]
  let p2:AI:=⟨p'.blk,p'.off,p'.room,.tuple Bm,fun b=>b=p'.blk∨∃ m:Nat,Bm[m]? =some (Value.map (some b))⟩
  have dY: ∀ {m:Nat} {z:Option KS},(ls.set i (some l))[m]? =some z -> (m=i/\ z=some l)∨(m≠i/\ ls[m]? =some z):=fun {m z} hm=>by
   rw [ym] at hm
   by_cases e:i=m
   ·subst e;simp [hi] at hm;exact .inl ⟨rfl,hm.symm⟩
   ·rw [yM e] at hm;exact .inr ⟨zAe e,hm⟩
  have SA:EY W p2 n' (ls.set i (some l)) none Bm:=by
   refine ⟨rfl,by simp [Bm,hS.size],⟨EV,ty,e1,by simpa [e2] using FS,by rw [e2];exact CU,fun m hm=>?_⟩,.inl rfl,fun m l1 hm=>?_,fun m hm=>?_,fun b hb=>?_,fun m m' b h1 h2=>?_⟩
   ·rw [yp] at hm
    show EV[p'.off+m]? =Bm[m]?
    rw [e3,Gy]
    by_cases e:i=m
    ·subst e;rw [yC (by simp),yC rfl];simp
    ·rw [yM (by simp;omega),yM e];exact C1 m hm
   ·rcases dY hm with ⟨rfl,e⟩ | ⟨AV,hm⟩
    ·cases e;refine ⟨q.blk,by rw [Gy,yC rfl],cF,.inr ⟨m,by rw [Gy,yC rfl]⟩,es,AR,{ hA with blk:=BZ cF hA.blk },fun x hx=>by cases hx⟩
    ·obtain ⟨b,k1,k2,k3,G8,c1,k4,_⟩:=hS.has m l1 hm;exact ⟨b,by rw [Gy,yM (zAe AV)];exact k1,k2,.inr ⟨m,by rw [Gy,yM (zAe AV)];exact k1⟩,G8,c1,{ k4 with blk:=BZ k2 k4.blk },fun x hx=>by cases hx⟩
   ·rcases dY hm with ⟨rfl,e⟩ | ⟨AV,hm⟩
    ·cases e
    ·rw [Gy,yM (zAe AV)];exact hS.nil m hm
   ·rcases hb with hb | ⟨m,hm⟩
    ·exact .inl hb
    ·refine .inr ?_;have AC:=hm;rw [Gy] at hm
     by_cases e:i=m
     ·subst e;exact ⟨i,l,by simp [hi],AC⟩
     ·rw [yM e] at hm;obtain ⟨l1,g1,_⟩:=hS.of_map hm;exact ⟨m,l1,by rw [ym,yM e];exact g1,AC⟩
   ·rw [Gy] at h1 h2
    by_cases c1:i=m
    ·by_cases c2:i=m'
     ·omega
     ·rw [yC c1] at h1;rw [yM c2] at h2;cases h1;obtain ⟨_,_,g2,_⟩:=hS.of_map h2;exact absurd rfl (Xk _ g2)
    ·rw [yM c1] at h1
     by_cases c2:i=m'
     ·rw [yC c2] at h2;cases h2;obtain ⟨_,_,g2,_⟩:=hS.of_map h1;exact absurd rfl (Xk _ g2)
     ·rw [yM c2] at h2;exact hS.inj m m' b h1 h2
  have Dc: ∀ b,p2.foot b -> (p'.foot b∨q.foot b)/\ Dh W b:=fun b hb=>by
   refine ⟨?_,SA.lies hb⟩;rcases hb with hb | ⟨m,hm⟩
   ·exact .inl (by rw [hb];exact hS.blk)
   ·rw [Gy] at hm
    by_cases e:i=m
    ·rw [yC e] at hm;cases hm;exact .inr (by rw [eO])
    ·rw [yM e] at hm;exact .inl (hS.of_map hm).choose_spec.2.1
  obtain ⟨g1,g2⟩:=R.hr.merge (o':=.mo (.sets n' (ls.set i (some l)) none)) (p':=p2) X7 hK hp hJ hq hU Dc ⟨Bm,SA⟩
  have O:BM (MS N S.h ρ) w ρ (MS N ((S.h.set k none).set j none++[some (.mo (.sets n' (ls.set i (some l)) none))]) (ρ++[p2])) W (ρ++[p2]):=
   ⟨fun b hb hm _=>hU.block b hb fun hx=>hm (.inr ⟨k,_,p',hK,hp,hx⟩),fun b hb=>hb.elim (fun h=>.inl (.inl h)) (fun h=>(g2.grow b h).imp .inr id),fun k q hk=>De hk⟩
  refine ⟨⟨ρ++[p2],⟨g1,by simp [R.fr.1,Act.put],fun m hm=>?_⟩,g2,fun k q hk=>De hk⟩,k,i,p',t,x,y,ho,hX,hp,hU⟩;have By:m<S.fr.length:=by simpa using hm
  have e:(S.fr.map (J7 k S.h.length)).getD m .any=J7 k S.h.length (S.fr.getD m .any):=by simp [By]
  show AJ _ W ((S.fr.map (J7 k S.h.length)).getD m .any) _ _
  rw [e];have r0:=R.fr.2 m By;cases hd:S.fr.getD m .any with
  | msl k1 m1 o1 n1=>
   rw [hd] at r0
   by_cases hc:k1=k
   ·have e2:J7 k S.h.length (.msl k1 m1 o1 n1)= .msl S.h.length m1 o1 n1:=by simp only [J7,yC hc]
    rw [e2];rw [hc] at r0;obtain ⟨q0,cap,NR,Xc,u1,u2,u3⟩:=r0;have vo:q0=p':=yK (NR.symm.trans hp);subst vo;exact ⟨p2,cap,by rw [←R.hr.len];simp,Xc,u1,u2,u3⟩
   ·have e2:J7 k S.h.length (.msl k1 m1 o1 n1)= .msl k1 m1 o1 n1:=by simp only [J7,yM hc]
    rw [e2];exact AJ.out _ O r0
  | _=>rw [hd] at r0;exact AJ.out _ O r0
end
end Go.Proofs.YtekkngkphejfcaaGreatDoor
namespace Go.Proofs.YtekkngkphejfcaaGreatDoor
abbrev zAV:=@List.mem_iff_getElem?
abbrev zAW:=@Array.getElem?_toList
abbrev zA4:=@Array.mem_toList_iff
end Go.Proofs.YtekkngkphejfcaaGreatDoor
namespace Go.Proofs.YtekkngkphejfcaaGreatDoor
open Go.RowKit
def OY:DV:=.tup 0 (fun j=>([]:List DV).getD j .any)
theorem Ro {M:Nat -> Prop} {w:World} {ρ:List AI}:AJ M w OY ρ undef:=⟨#[],rfl,rfl,fun j hj=>absurd hj (yT j)⟩
def Ed (fr:List DV) (dst:Option Nat) (d:DV):List DV:=match dst with
 | some t=>fr.set t d
 | none=>fr
section
variable {P:Program} {Γ:Au} {N:Nat -> Prop} {S:St} {ρ:List AI} {a:Act} {w:World}
theorem II (R:AX P Γ N S ρ a w) (dst:Option Nat) {d:DV} {v:Value} (hv:AJ (MS N S.h ρ) w d ρ v):AX P Γ N ⟨Ed S.fr dst d,S.h⟩ ρ (a.put dst v) w:=by
 refine ⟨R.hr,?_⟩;cases dst with
 | none=>exact R.fr
 | some t=>exact R.fr.set t hv
theorem Qn (R:AX P Γ N S ρ a w) {d d':DV} {h':DH} {ext:Bool} {v:Value} {w':World} (dst:Option Nat) (G:C9 P Γ N S.h ρ w ext d h' v w') (hd: ∀ M ρ',AJ M w' d ρ' v -> AJ M w' d' ρ' v):
 ∃ ρ',AX P Γ N ⟨Ed S.fr dst d',h'⟩ ρ' (a.put dst v) w'/\ EH S.h ρ w h' ρ' w':=by
 obtain ⟨ρ',g1,g2,g3,g4⟩:=G.ex;have O:BM (MS N S.h ρ) w ρ (MS N h' ρ') w' ρ':=⟨fun b hb hm _=>g3.upd.block b hb fun hx=>hm (.inr hx),fun b hb=>hb.elim (fun h=>.inl (.inl h)) (fun h=>(g3.grow b h).imp .inr id),g4⟩;have R':AX P Γ N ⟨S.fr,h'⟩ ρ' a w':=⟨g1,R.fr.out O⟩;exact ⟨ρ',II R' dst (hd _ _ g2),g3,g4⟩
end
def O8 (P:Program) (t:TypeId):Option (TypeId×TypeId):=match P.underlying t with
 | some (.map k e)=>if P7 P k then match P.info? e with
  | some i=>match i.zero with
   | some (.slice none 0 0)=>some (k,e)
   | _=>none
  | none=>none
  else none
 | _=>none
theorem bV {P:Program} {t k e:TypeId} (h:O8 P t=some (k,e)):P.underlying t=some (.map k e)/\ Fk P k=some 1/\ ∀ w,(zeroValue e).run P w= .ok (.slice none 0 0) w:=by
 unfold O8 at h;split at h
 ·rename_i k' e' hu;split at h
  ·rename_i hk;split at h
   ·rename_i i hi;split at h
    ·rename_i hz;cases h;exact ⟨hu,by unfold Fk;rw [XD hk],fun w=>by simp [zeroValue,typeInfo,hi,hz]⟩
    ·cases h
   ·cases h
  ·cases h
 ·cases h
def M6 (j q:Nat):DV -> DV
 | .mri k i=>if k=j then (if i=0 then .mri q 0 else .any) else .mri k i
 | d=>d
def GK (f:Int -> List Int) (k:Int) (L:List Int):Int -> List Int:=fun x=>if x=k then L else f x
def O9 (P:Program) (S:St) (o:Oper):Option (St×List Prop):=match o.op with
 | .makeMap t none=>match O8 P t with
  | some _=>some (⟨Ed S.fr o.dst (.mri S.h.length 0),S.h++[some (.mo (.rows (fun _=>[]) none))]⟩,[])
  | none=>none
 | .lookup t m k false=>match O8 P t with
  | some _=>match AY S.fr m,AY S.fr k with
   | .mri j 0,.int .i64 x=>match S.h[j]? with
    | some (some (.mo (.rows f C4)))=>if C4.all (fun y=>!y.2.2) then some (⟨Ed (S.fr.map (M6 j S.h.length)) o.dst (.mri S.h.length 1),S.h.set j none++[some (.mo (.rows f (some (x,f x,false))))]⟩,[]) else none
    | _=>none
   | _,_=>none
  | none=>none
 | .mapUpdate t m k y=>match O8 P t with
  | some _=>match AY S.fr m,AY S.fr k,AY S.fr y with
   | .mri j 0,.int .i64 x,.mri j' 1=>match S.h[j]? with
    | some (some (.mo (.rows f (some (x',L,_)))))=>if j'=j then some (⟨Ed S.fr o.dst OY,S.h.set j (some (.mo (.rows (GK f x' L) none)))⟩,[x'=x]) else none
    | _=>none
   | _,_,_=>none
  | none=>none
 | .call c=>match c.callee with
  | .builtin .append=>match c.args.toList with
   | [x,y]=>match c.argTypes.toList with
    | [t,t']=>if t=t' then match Kd P t with
     | some (.ints,_,i,_)=>if 128<i.bytes then none else match AY S.fr x,Ta S (AY S.fr y) with
      | .mse j 1 off n,some (ys,vy)=>match S.h[j]? with
       | some (some (.ints xs))=>some (⟨Ed S.fr o.dst (.mse S.h.length 1 0 (n+ys.length)),S.h.set j none++[some (.ints (xs.drop off++ys))]⟩,[vy,0<ys.length,off+n=xs.length,n+ys.length<=BT])
       | _=>none
      | .mri j 1,some (ys,vy)=>match S.h[j]? with
       | some (some (.mo (.rows f (some (x',L,_)))))=>some (⟨Ed (S.fr.map (M6 j S.h.length)) o.dst (.mri S.h.length 1),S.h.set j none++[some (.mo (.rows f (some (x',L++ys,true))))]⟩,[vy,0<ys.length,L.length+ys.length<=BT])
       | _=>none
      | _,_=>none
     | _=>none
     else none
    | _=>none
   | _=>none
  | _=>none
 | _=>none
theorem mg {P:Program} {S:St} {o:Oper} {r:St×List Prop} (h:O9 P S o=some r) {t:TypeId} {x y:Operand}:o.op≠.store t x y:=by
 intro e;unfold O9 at h;rw [e] at h;cases h
theorem B1.map {M:Nat -> Prop} {w:World} {ρ:List AI} {fr:List DV} {t:Array Value} (h:B1 M w ρ fr t) {g:DV -> DV} (hg: ∀ d v,AJ M w d ρ v -> AJ M w (g d) ρ v):B1 M w ρ (fr.map g) t:=
 ⟨by simp [h.1],fun i hi=>by
  have A7:i<fr.length:=by simpa using hi
  have e:(fr.map g).getD i .any=g (fr.getD i .any):=by simp [A7]
  rw [e];exact hg _ _ (h.2 i A7)⟩
section
variable {P:Program} {Γ:Au} {N:Nat -> Prop} {S:St} {ρ:List AI} {a:Act} {w w':World} {p p':AI} {f:Int -> List Int} {C4:Option (Int×List Int×Bool)} {u:Value} {es:Array MapEntry} {AR:Nat}
theorem cr (h:Dy w p f C4 u es AR) {kt:TypeId} (hk:P.underlying kt=some (.int .i64)) (x:Int):
 ((Instr.findKey kt (.int .i64 x) es.toList).run P w= .ok none w/\ ∀ e∈es.toList,e.key≠.int .i64 x)∨∃ j e,(Instr.findKey kt (.int .i64 x) es.toList).run P w= .ok (some (j,e.val)) w/\ es[j]? =some e/\ e.key= .int .i64 x:=by
 rcases MapKept.findNow_spec (d:=.int .i64) (k:=.int .i64 x) (by trivial) es.toList 0 (fun e hm=>by
  obtain ⟨k,hk,_⟩:=h.key e hm;rw [hk];trivial) with ⟨h1,h2⟩ | ⟨j,e,h1,h2,h3⟩
 ·exact .inl ⟨zAl hk h1,h2⟩
 ·exact .inr ⟨j,e,by have:=zAl (w:=w) hk h1;rw [yX] at this;exact this,by simpa using h2,h3⟩
theorem S9 (R:AX P Γ N S ρ a w) {j i:Nat} {v:Value} (hk:S.h[j]? =some (some (.mo (.rows f C4)))) (hv:AJ (MS N S.h ρ) w (.mri j i) ρ v): ∃ p u es AR,ρ[j]? =some p/\ Dy w p f C4 u es AR/\ (#[Value.map (some p.blk),u]:Array Value)[i]? =some v:=by
 obtain ⟨p,vs,hp,F4,DE⟩:=hv;obtain ⟨p',A6,u,es,AR,h1⟩:=R.hr.obj j _ hk;have:p'=p:=yK (A6.symm.trans hp);subst this;have: #[Value.map (some p'.blk),u]=vs:=by have:=h1.val.symm.trans F4;cases this;rfl
 subst this;exact ⟨p',u,es,AR,hp,h1,DE⟩
theorem Dy.lies (h:Dy w p f C4 u es AR):Dh w p.blk:=⟨_,rfl,(),h.blk⟩
theorem bT (R:AX P Γ N S ρ a w) {j:Nat} (hj:S.h[j]? =some (some (.mo (.rows f C4)))) (hp:ρ[j]? =some p) (hO:Dy w p f C4 u es AR) {f':Int -> List Int} {Qs:Option (Int×List Int×Bool)} {u':Value} {DS:Array MapEntry} {EF:Nat}
 (hu:AM p.foot w w') (hf: ∀ b,p'.foot b -> (p.foot b∨w.heap.size<=b)/\ Dh w' b) (Qj:Dy w' p' f' Qs u' DS EF) (YN:p'.blk=p.blk) (dst:Option Nat):
 ∃ ρ',AX P Γ N ⟨Ed (S.fr.map (M6 j S.h.length)) dst (.mri S.h.length 1),S.h.set j none++[some (.mo (.rows f' Qs))]⟩ ρ' (a.put dst u') w'/\ EH S.h ρ w (S.h.set j none++[some (.mo (.rows f' Qs))]) ρ' w':=by
 obtain ⟨g1,g2⟩:=R.hr.regrow (o':=.mo (.rows f' Qs)) hj hp hu hf ⟨u',DS,EF,Qj⟩;have FN: ∀ (k:Nat) (q:AI),ρ[k]? =some q -> (ρ++[p'])[k]? =some q:=fun k q hk=>De hk
 have O:BM (MS N S.h ρ) w ρ (MS N (S.h.set j none++[some (.mo (.rows f' Qs))]) (ρ++[p'])) w' (ρ++[p']):=
  ⟨fun b hb hm _=>hu.block b hb fun hx=>hm (.inr ⟨j,_,p,hj,hp,hx⟩),fun b hb=>hb.elim (fun h=>.inl (.inl h)) (fun h=>(g2.grow b h).imp .inr id),FN⟩
 have hq:(ρ++[p'])[S.h.length]? =some p':=by rw [←R.hr.len];simp
 have Du:=(R.fr.out O).map (g:=M6 j S.h.length) (fun d v hd=>by
  unfold M6;split
  ·rename_i k i;split
   ·rename_i e;split
    ·rename_i e2;subst e e2;obtain ⟨q,vs,h1,h2,h3⟩:=hd;have:q=p:=yK (h1.symm.trans (FN _ _ hp));subst this;have e3: #[Value.map (some q.blk),u]=vs:=by have:=hO.val.symm.trans h2;cases this;rfl
     subst e3;exact ⟨p',_,hq,Qj.val,by rw [YN];simpa using h3⟩
    ·trivial
   ·exact hd
  ·exact hd)
 exact ⟨ρ++[p'],II (S:=⟨S.fr.map (M6 j S.h.length),_⟩) ⟨g1,Du⟩ dst ⟨p',_,hq,Qj.val,rfl⟩,g2,FN⟩
theorem oT (h:Dy w p f C4 u es AR) (hh: ∀ k L,C4≠some (k,L,true)) {t kt et:TypeId} (hm:P.underlying t=some (.map kt et)) (hk:Fk P kt=some 1) (hz:(zeroValue et).run P w= .ok (.slice none 0 0) w) (x:Int):
 ∃ u',(Instr.lookup t (.map (some p.blk)) (.int .i64 x) false).run P w= .ok u' w/\ Dy w { p with val:=.tuple #[Value.map (some p.blk),u'] } f (some (x,f x,false)) u' es AR:=by
 have hu:P.underlying kt=some (.int .i64):=by
  rcases NF hk with ⟨_,hu⟩ | ⟨_,_,_,h2,_⟩
  ·exact hu
  ·cases h2
 have hc:=fun e=>NE (w:=w) hk (x:=[x]) rfl e
 have mk: ∀ u',(Il w (fun b=>p.foot b/\ b≠p.blk) u' (f x)/\ ∀ e∈es.toList,∀ b,Ew u'=some b -> Ew e.val=some b -> e.key= .int .i64 x) -> Dy w { p with val:=.tuple #[Value.map (some p.blk),u'] } f (some (x,f x,false)) u' es AR:=fun u' BR=>
  ⟨rfl,h.blk,h.own,fun e he=>let ⟨k,h1,h2⟩:=h.key e he;⟨k,h1,fun _=>h2 fun L=>hh k L⟩,h.no,h.nd,h.apart,h.born,h.stamps,fun k L g e=>by cases e;exact BR⟩
 rcases cr h hu x with ⟨h1,h2⟩ | ⟨j,e,h1,h2,h3⟩
 ·refine ⟨.slice none 0 0,?_,mk _ ⟨.inl ⟨h.no x h2,rfl⟩,fun e _ b hb=>by cases hb⟩⟩;have G5:=hc es.isEmpty;simp only [A4] at G5;simp [Instr.lookup,zA hm,zY h.blk,G5,h1,hz,Result.andThen]
 ·have By:e∈es.toList:=zA4.2 (zAB h2);obtain ⟨k,g1,g2⟩:=h.key e By;have:k=x:=by rw [g1] at h3;cases h3;rfl
  subst this;refine ⟨e.val,?_,mk _ ⟨g2 fun L=>hh k L,fun e' GU b hb ER=>(h.apart e' GU e By b ER hb).trans h3⟩⟩;have G5:=hc es.isEmpty;simp only [A4] at G5;simp [Instr.lookup,zA hm,zY h.blk,G5,h1,Result.andThen]
theorem oU (h:Dy w p f C4 u es AR) {x:Int} {L:List Int} {g:Bool} (Qa:C4=some (x,L,g)) (hl: ∀ b,p.foot b -> Dh w b) {t e ty:TypeId} {i:TypeInfo} {z:Value} (hu:P.underlying t=some (.slice e)) (hi:P.info? e=some i) (hz:i.zero=some z) (A2:i.size=1) (Cw:z.cells.size=i.size) (EP:i.bytes<=128)
 {vy:Value} {ys:List Int} (hy:Src P i.size t vy ys.length (ys.map (Value.int .i64)) w) (hc:0<ys.length) (hb:L.length+ys.length<=BT):
 ∃ w' u' p',(Builtin.append_ #[t,t] ty #[u,vy]).run P w= .ok u' w'/\ AM p.foot w w'/\ (∀ b,p'.foot b -> (p.foot b∨w.heap.size<=b)/\ Dh w' b)/\ Dy w' p' f (some (x,L++ys,true)) u' es AR/\ p'.blk=p.blk:=by
 obtain ⟨hs,hd⟩:=h.inHand x L g Qa;have Ae:(L++ys).length=L.length+ys.length:=yu
 have Wm: ∃ w' q Bp,(Builtin.append_ #[t,t] ty #[u,vy]).run P w= .ok (.slice (some ⟨q.blk,q.off,none⟩) (L++ys).length Bp) w'/\ (L++ys).length<=Bp/\ q.off+Bp<=q.room/\ AM (fun b=>Ew u=some b) w w'/\ (Ew u=some q.blk∨w.heap.size<=q.blk)/\ AS w' q (L++ys).length (fun j v=>v= .int .i64 ((L++ys).getD j 0)):=by
  rcases hs with ⟨rfl,rfl⟩ | ⟨q,cap,rfl,h1,h2,h3,h4,h5⟩
  ·obtain ⟨w',Bp,r1,r2,cs,rfl,r4,r5⟩:=ZE none (ty:=ty) hu hi hz Cw EP hy hc (by unfold BT at hb;simp at hb;omega);rw [A2,zD] at r4;refine ⟨_,Da w cs.size,Bp,by simpa [Da] using r1,by simpa using r2,by simp [Da,r4],AM.ofExt ((Ar.toDrew w).allocR _),.inr (yf _),LA rfl (by simp;omega) fun j hj=>?_⟩;have BI:j<ys.length:=by simpa using hj
   refine ⟨.int .i64 (ys.getD j 0),?_,by simp⟩;rw [r5 j (by rw [A2,zD];exact BI)];simp [BI]
  ·obtain ⟨w',q',Bp,r1,r2,r3,r4,r5,r6⟩:=ZC (ty:=ty) (R:=fun j v=>v= .int .i64 (L.getD j 0)) (cap:=cap) hu hi hz (by omega) Cw EP (by rw [A2,zD];exact h5) h1 (by rw [A2,zD];exact h2) hy (by unfold BT at hb;omega);rw [A2,zD] at r3;have hq:q.foot=(fun b=>b=q.blk):=h5.1;have hR:=XC (P:=P) (M:=fun _=>False) (ρ':=[]) A2 r6;refine ⟨w',q',Bp,by rw [Ae];exact r1,by rw [Ae];exact r2,r3,r4.mono fun b _ hb=>by rw [hq] at hb;rw [show b=q.blk from hb];rfl,?_,hR⟩;have Ls:=r6.1;rcases r5 q'.blk (by rw [Ls]) with e | e
   ·rw [hq] at e;exact .inl (by rw [show q'.blk=q.blk from e];rfl)
   ·exact .inr e
 obtain ⟨w',q,Bp,r1,r2,r3,r4,r5,r6⟩:=Wm;have Vd: ∀ b,Ew u=some b -> (p.foot b/\ b≠p.blk)/\ b<w.heap.size:=fun b hb=>hs.blk hb
 have keep: ∀ b,b<w.heap.size -> Ew u≠some b -> w'.heap[b]? =w.heap[b]? :=fun b hb hn=>r4.block b hb hn
 have Xl:Ew u≠some p.blk:=fun e=>(Vd _ e).1.2 rfl
 have r9:p.blk<w.heap.size:=(yE.1 h.blk).1;have ru:q.blk≠p.blk:=fun e=>r5.elim (fun e'=>Xl (by rw [←e];exact e')) (fun e'=>by omega)
 refine ⟨w',_,⟨p.blk,p.off,p.room,.tuple #[Value.map (some p.blk),.slice (some ⟨q.blk,q.off,none⟩) (L++ys).length Bp],fun b=>(p.foot b/\ Ew u≠some b)∨b=q.blk⟩,r1,r4.mono fun b _ hb=>(Vd b hb).1.1,fun b hb=>?_,?_,rfl⟩
 ·rcases hb with ⟨g1,g2⟩ | g1
  ·obtain ⟨c,t1,t2,hc⟩:=hl b g1;exact ⟨.inl g1,c,t1,t2,(keep b (yE.1 hc).1 g2).trans hc⟩
  ·obtain ⟨_,cs,tt,g,_⟩:=r6;subst g1;exact ⟨r5.imp (fun e=>(Vd _ e).1.1) id,.cells g⟩
 ·have Eh: ∀ e'∈es.toList,∀ k,e'.key= .int .i64 k -> k≠x -> Il w (fun b=>p.foot b/\ b≠p.blk) e'.val (f k):=fun e' he k hk JL=>by
   obtain ⟨k',h1,h2⟩:=h.key e' he;have:k'=k:=by rw [h1] at hk;cases hk;rfl
   subst this;exact h2 fun L' e=>by rw [Qa] at e;cases e;exact JL rfl
  refine ⟨rfl,(keep _ r9 Xl).trans h.blk,.inl ⟨h.own,Xl⟩,fun e' he=>?_,h.no,h.nd,h.apart,h.born,h.stamps,fun k L' g' e'=>?_⟩
  ·obtain ⟨k,h1,_⟩:=h.key e' he;refine ⟨k,h1,fun hn=>?_⟩;have hk:k≠x:=fun e=>by subst e;exact hn _ rfl
   have ne: ∀ b,Ew e'.val=some b -> Ew u≠some b:=fun b hb ER=>hk (by have:=hd e' he b ER hb;rw [h1] at this;cases this;rfl)
   exact (Eh e' he k h1 hk).out (fun b hf hb hl=>keep b hl (ne b hb)) fun b hf hb=>⟨.inl ⟨hf.1,ne b hb⟩,hf.2⟩
  ·cases e';refine ⟨.inr ⟨q,Bp,rfl,r2,r3,by unfold LB;unfold BT at hb;omega,⟨.inr rfl,ru⟩,r6⟩,fun e' he b hb ER=>?_⟩;cases hb;rcases r5 with r5 | r5
   ·exact hd e' he _ r5 ER
   ·obtain ⟨k',h1,_⟩:=h.key e' he
    by_cases hk:k'=x
    ·subst hk;exact h1
    ·exact absurd ((Eh e' he k' h1 hk).blk ER).2 (Nat.not_lt.2 r5)
theorem oS (h:Dy w p f C4 u es AR) {x:Int} {L:List Int} {g:Bool} (Qa:C4=some (x,L,g)) {t kt et:TypeId} (hm:P.underlying t=some (.map kt et)) (hk:Fk P kt=some 1):
 ∃ w' DS EF,(Instr.mapUpdate t (.map (some p.blk)) (.int .i64 x) u).run P w= .ok () w'/\ AM (fun b=>b=p.blk) w w'/\ Dy w' p (GK f x L) none u DS EF:=by
 have hu:P.underlying kt=some (.int .i64):=by
  rcases NF hk with ⟨_,hu⟩ | ⟨_,_,_,h2,_⟩
  ·exact hu
  ·cases h2
 have hc:=NE (w:=w) hk (x:=[x]) rfl false;simp only [A4] at hc;obtain ⟨hs,hd⟩:=h.inHand x L g Qa;have AK:p.blk<w.heap.size:=(yE.1 h.blk).1
 have mk: ∀ (DS:Array MapEntry) (EF:Nat),(∀ e∈DS.toList,(e.key= .int .i64 x/\ e.val=u)∨(e∈es.toList/\ e.key≠.int .i64 x)) -> (∃ e∈DS.toList,e.key= .int .i64 x) -> (∀ e∈es.toList,e.key≠.int .i64 x -> e∈DS.toList) -> MapKept.Stamped DS EF ->
  Dy { w with heap:=w.heap.setIfInBounds p.blk (.map DS EF) } p (GK f x L) none u DS EF:=fun DS EF m1 m2 m3 st=>by
  have stay: ∀ b,b≠p.blk -> (w.heap.setIfInBounds p.blk (.map DS EF))[b]? =w.heap[b]? :=fun b hb=>by simp [zAe hb]
  have Eh: ∀ e'∈es.toList,∀ k,e'.key= .int .i64 k -> k≠x -> Il w (fun b=>p.foot b/\ b≠p.blk) e'.val (f k):=fun e' he k hk JL=>by
   obtain ⟨k',h1,h2⟩:=h.key e' he;have:k'=k:=by rw [h1] at hk;cases hk;rfl
   subst this;exact h2 fun L' e=>by rw [Qa] at e;cases e;exact JL rfl
  refine ⟨h.val,by simp [AK],h.own,fun e he=>?_,fun k DG=>?_,st.2.2,fun e he e' GU b hb ER=>?_,st.1,st.2.1,fun k L' g' e=>by cases e⟩
  ·rcases m1 e he with ⟨a1,a2⟩ | ⟨a1,a2⟩
   ·refine ⟨x,a1,fun _=>?_⟩;rw [a2];unfold GK;rw [yC rfl];exact hs.out (fun b hf _ _=>stay b hf.2) fun _ h _=>h
   ·obtain ⟨k,h1,_⟩:=h.key e a1;have JL:k≠x:=fun e'=>a2 (by rw [h1,e'])
    refine ⟨k,h1,fun _=>?_⟩;unfold GK;rw [yM JL];exact (Eh e a1 k h1 JL).out (fun b hf _ _=>stay b hf.2) fun _ h _=>h
  ·have JL:k≠x:=fun e=>by subst e;obtain ⟨e,h1,h2⟩:=m2;exact DG e h1 h2
   unfold GK;rw [yM JL];refine h.no k fun e he fD=>?_
   exact DG e (m3 e he fun h=>JL (by rw [fD] at h;cases h;rfl)) fD
  ·rcases m1 e he with ⟨a1,a2⟩ | ⟨a1,a2⟩
   ·rcases m1 e' GU with ⟨b1,b2⟩ | ⟨b1,b2⟩
    ·rw [a1,b1]
    ·rw [a2] at hb;exact a1.trans (hd e' b1 b hb ER).symm
   ·rcases m1 e' GU with ⟨b1,b2⟩ | ⟨b1,b2⟩
    ·rw [b2] at ER;exact (hd e a1 b ER hb).trans b1.symm
    ·exact h.apart e a1 e' b1 b hb ER
 have st:MapKept.Stamped es AR:=⟨h.born,h.stamps,h.nd⟩;rcases cr h hu x with ⟨h1,h2⟩ | ⟨j,e,h1,h2,h3⟩
 ·refine ⟨_,es.push { key:=.int .i64 x,val:=u,born:=AR },AR+1,?_,OT _,mk _ _ (fun e he=>?_) ⟨{ key:=.int .i64 x,val:=u,born:=AR },by simp,rfl⟩ (fun e he _=>by simp [zA4.1 he]) (MapKept.stamped_push st h2)⟩
  ·simp [Instr.mapUpdate,zA hm,zY h.blk,hc,h1,zAP _ h.blk,Result.andThen]
  ·simp only [Array.toList_push,yb,yV] at he;rcases he with he | rfl
   ·exact .inr ⟨he,h2 e he⟩
   ·exact .inl ⟨rfl,rfl⟩
 ·have D8:((es[j]?).map (·.key)).getD (.int .i64 x)= .int .i64 x:=by rw [h2];exact h3
  have E4:=MapKept.run_keyThatStays (P:=P) (w:=w) (d:=.int .i64) (k:=.int .i64 x) (by trivial);have hj:j<es.size:=(yE.1 h2).1
  have inj: ∀ (m:Nat) (e':MapEntry),es[m]? =some e' -> e'.key= .int .i64 x -> m=j:=fun m e' By DG=>by
   have Fo:m<es.size:=(yE.1 By).1;have g1:(es.toList.map (·.key))[m]? =some (.int .i64 x):=by simp [By,DG]
   have g2:(es.toList.map (·.key))[j]? =some (.int .i64 x):=by simp [h2,h3]
   exact (List.getElem?_inj (by simpa using Fo) h.nd).1 (g1.trans g2.symm)
  have Hq: ∀ (m:Nat),(es.modify j fun e=>{ e with key:=.int .i64 x,val:=u })[m]? =if j=m then (es[m]?).map (fun e=>{ e with key:=.int .i64 x,val:=u }) else es[m]? :=fun m=>zAD
  refine ⟨_,es.modify j fun e=>{ e with key:=.int .i64 x,val:=u },AR,?_,OT _,mk _ _ (fun e1 YH=>?_) ⟨{ e with key:=.int .i64 x,val:=u },?_,rfl⟩ (fun e1 YH AV=>?_) (MapKept.stamped_modify st _ _ (fun _ _=>rfl) fun e' _ GU=>by rw [h2] at GU;cases GU;exact h3.symm)⟩
  ·simp [Instr.mapUpdate,zA hm,zY h.blk,hc,h1,D8,E4,zAP _ h.blk,Result.andThen]
  ·obtain ⟨m,By⟩:=zAV.1 YH;rw [zAW,Hq] at By;split at By
   ·rename_i YA;subst YA;rw [h2] at By;cases By;exact .inl ⟨rfl,rfl⟩
   ·rename_i YA;exact .inr ⟨zA4.2 (zAB By),fun DG=>YA (inj m e1 By DG).symm⟩
  ·exact zAV.2 ⟨j,by rw [zAW,Hq,yC rfl,h2];rfl⟩
  ·obtain ⟨m,By⟩:=zAV.1 YH;rw [zAW] at By;refine zAV.2 ⟨m,by rw [zAW,Hq,yM];exact By;rintro rfl;rw [h2] at By;cases By;exact AV h3⟩
theorem pM (R:AX P Γ N S ρ a w) {j off n:Nat} {xs:List Int} {v:Value} (hO:S.h[j]? =some (some (.ints xs))) (hv:AJ (MS N S.h ρ) w (.mse j 1 off n) ρ v) (hn:off+n=xs.length) {t e ty:TypeId} {i:TypeInfo} {z:Value} (hu:P.underlying t=some (.slice e)) (hi:P.info? e=some i) (hz:i.zero=some z) (A2:i.size=1) (Cw:z.cells.size=i.size) (EP:i.bytes<=128)
 {vy:Value} {ys:List Int} (hy:Src P i.size t vy ys.length (ys.map (Value.int .i64)) w) (hc:0<ys.length) (hb:n+ys.length<=BT):
 ∃ u w' p' Bp,v=u/\ (Builtin.append_ #[t,t] ty #[u,vy]).run P w= .ok (.slice (some ⟨p'.blk,p'.off,none⟩) (n+ys.length) Bp) w'/\ n+ys.length<=Bp/\ p'.off+Bp<=p'.room/\ (∃ p,ρ[j]? =some p/\ AM p.foot w w'/\ ∀ b,p'.foot b -> (p.foot b∨w.heap.size<=b)/\ Dh w' b)/\
  (∀ {M ρ'},Cp P M w' ρ' p' (.ints (xs.drop off++ys)))/\ True:=by
 obtain ⟨p,ad,cap,hp,rfl,h1,h2,h3⟩:=hv;obtain ⟨p2,QO,hr⟩:=R.hr.obj j _ hO;have:p2=p:=yK (QO.symm.trans hp);subst this;have Lz:(xs.drop off).length=n:=by simp;omega
 have Wm: ∃ w' p' Bp,(Builtin.append_ #[t,t] ty #[.slice ad n cap,vy]).run P w= .ok (.slice (some ⟨p'.blk,p'.off,none⟩) (n+ys.length) Bp) w'/\ n+ys.length<=Bp/\ p'.off+Bp*i.size<=p'.room/\ AM p2.foot w w'/\ (∀ b,p'.foot b -> p2.foot b∨w.heap.size<=b)/\ AS w' p' ((n+ys.length)*i.size) (HA (n*i.size) (fun j u=>u= .int .i64 ((xs.drop off).getD j 0)) (ys.map (Value.int .i64))):=by
  by_cases KN:cap=0
  ·subst KN;have E5:n=0:=by omega
   subst E5;obtain ⟨w',Bp,r1,r2,cs,rfl,r4,r5⟩:=ZE ad (ty:=ty) hu hi hz Cw EP hy hc (by unfold BT at hb;omega);refine ⟨_,Da w cs.size,Bp,by simpa [Da] using r1,by omega,by simp [Da,r4],AM.ofExt ((Ar.toDrew w).allocR _),fun b hb=>.inr (zA6 (Eq.symm hb)),LA rfl ?_ fun j hj=>?_⟩
   ·rw [r4];exact zg _ (by omega)
   ·rw [yX] at hj;refine ⟨(ys.map (Value.int .i64)).getD j undef,?_,?_⟩
    ·rw [r5 j hj];rw [A2,zD] at hj;simp [hj]
    ·rw [A2,zD] at hj;unfold HA;rw [yM (by omega)];simp [hj]
  ·obtain ⟨rfl,h4⟩:=h3 (by omega);obtain ⟨c1,cs,tt,c2,c3,c4,c5⟩:=hr
   exact ZC (ty:=ty) (p:={ p2 with off:=p2.off+off*1 }) (cap:=cap) hu hi hz (by omega) Cw EP (R:=fun j u=>u= .int .i64 ((xs.drop off).getD j 0)) (by
    refine ⟨c1,cs,tt,c2,?_,c4,fun j hj=>?_⟩
    ·rw [A2];show p2.off+off*1+n*1<=cs.size;omega
    ·rw [A2,zD] at hj;obtain ⟨u,q1,q2⟩:=c5 (off+j) (by omega);refine ⟨u,by show cs[p2.off+off*1+j]? =_;rw [show p2.off+off*1+j=p2.off+(off+j) by omega];exact q1,?_⟩;rw [q2];simp [u8]) h1 (by rw [A2];simpa using h4) hy (by unfold BT at hb;omega)
 obtain ⟨w',p',Bp,r1,r2,r3,r4,r5,r6⟩:=Wm;rw [A2,zD] at r3;refine ⟨_,w',p',Bp,rfl,r1,r2,r3,⟨p2,hp,r4,fun b hb=>⟨r5 b hb,?_⟩⟩,fun {M ρ'}=>XC (xs:=xs.drop off) (ys:=ys) A2 (by rw [Lz];exact r6),trivial⟩;obtain ⟨e1,cs,tt,e2,_⟩:=r6;rw [e1] at hb;exact .cells (c:=cs) (t:=tt) (z:=(0,0)) (by rw [show b=p'.blk from hb];exact e2)
theorem mf (R:AX P Γ N S ρ a w) {o:Oper} {S':St} {vs:List Prop} (h:O9 P S o=some (S',vs)) (hv:Bc vs):
 BN P (execOp a.eval o) w (fun v w'=>∃ ρ',AX P Γ N S' ρ' (a.put o.dst v) w'/\ EH S.h ρ w S'.h ρ' w'):=by
 unfold O9 at h;split at h
 ·rename_i t ho;split at h
  ·rename_i r hT;cases h;refine BN.value (s:=Instr.makeMap t none) (by unfold execOp;rw [ho];rfl) (v:=.map (some w.heap.size)) (w':=w.alloc (.map #[] 0)) (by simp [Instr.makeMap,newObj];rfl) ?_;have G:=UM (ob:=.map #[] 0) (o:=.mo (.rows (fun _=>[]) none)) (d:=.mri S.h.length 0) (v:=.map (some w.heap.size)) (pl:=⟨w.heap.size,0,0,.tuple #[.map (some w.heap.size),undef],fun b=>b=w.heap.size⟩) R.hr rfl rfl (fun M ρ'=>⟨undef,#[],0,rfl,zAL w _,rfl,fun e he=>absurd he (by simp),fun _ _=>rfl,by simp,fun e he=>absurd he (by simp),fun e he=>absurd he (by simp),by simp,fun k L g e=>by cases e⟩) (fun M ρ' hp=>⟨_,_,hp,rfl,rfl⟩) true;exact Qn R o.dst G fun _ _ h=>h
  ·cases h
 ·rename_i t m k ho;split at h
  ·rename_i r hT;obtain ⟨kt,et⟩:=r;obtain ⟨hu,hk,hz⟩:=bV hT;have rm:=Bj R m;have rk:=Bj R k;split at h
   ·rename_i j x hM hK;split at h
    ·rename_i f C4 hO;split at h
     ·rename_i hh;cases h;rw [hM] at rm;rw [hK] at rk;obtain ⟨p,u,es,AR,hp,hA,DE⟩:=S9 R hO rm;have em:a.eval m= .map (some p.blk):=by simpa using DE.symm
      have ek:a.eval k= .int .i64 x:=rk;obtain ⟨u',g1,g2⟩:=oT hA (fun k L e=>by subst e;simp at hh) hu hk (hz w) x;refine BN.value (s:=Instr.lookup t (a.eval m) (a.eval k) false) (by unfold execOp;rw [ho]) (by rw [em,ek];exact g1) ?_;exact bT (p':={ p with val:=.tuple #[Value.map (some p.blk),u'] }) R hO hp hA (AM.refl _ _) (fun b hb=>⟨.inl hb,(R.hr.cel j _ p b hO hp hb).2.2⟩) g2 rfl o.dst
     ·cases h
    ·cases h
   ·cases h
  ·cases h
 ·rename_i t m k y ho;split at h
  ·rename_i r hT;obtain ⟨kt,et⟩:=r;obtain ⟨hu,hk,hz⟩:=bV hT;have rm:=Bj R m;have rk:=Bj R k;have ry:=Bj R y;split at h
   ·rename_i j x j' hM hK hY;split at h
    ·rename_i f x' L g hO;split at h
     ·rename_i hj;cases h;subst hj;have hx:x'=x:=hv.1;subst hx;rw [hM] at rm;rw [hK] at rk;rw [hY] at ry;obtain ⟨p,u,es,AR,hp,hA,DE⟩:=S9 R hO rm;obtain ⟨p2,u2,es2,clock2,QO,us,rI⟩:=S9 R hO ry;have:p2=p:=yK (QO.symm.trans hp);subst this;have eu:u2=u:=by have:=us.val.symm.trans hA.val;simp at this;exact this
      have em:a.eval m= .map (some p2.blk):=by simpa using DE.symm
      have ek:a.eval k= .int .i64 x':=rk;have ey:a.eval y=u:=by rw [←eu];simpa using rI.symm
      obtain ⟨w',DS,EF,g1,g2,g3⟩:=oS hA rfl hu hk;refine BN.skip (s:=Instr.mapUpdate t (a.eval m) (a.eval k) (a.eval y)) (by unfold execOp;rw [ho]) (w':=w') (by rw [em,ek,ey];exact g1) ?_;have KC:AM p2.foot w w':=g2.mono fun b _ hb=>by rw [show b=p2.blk from hb];exact hA.own
      have hl: ∀ b,p2.foot b -> Dh w' b:=fun b hb=>by
       by_cases e:b=p2.blk
       ·rw [e];exact g3.lies
       ·obtain ⟨c,t1,t2,hc⟩:=(R.hr.cel _ _ p2 b hO hp hb).2.2;exact ⟨c,t1,t2,(g2.block b (yE.1 hc).1 e).trans hc⟩
      have G:C9 P Γ N S.h ρ w false OY (S.h.set j' (some (.mo (.rows (GK f x' L) none)))) undef w':=⟨⟨ρ,R.hr.write hO hp KC hl ⟨u,DS,EF,g3⟩,Ro,A8.write hO hp KC,fun _ _ h=>h⟩,fun h=>by cases h⟩;exact Qn R o.dst G fun _ _ h=>h
     ·cases h
    ·cases h
   ·cases h
  ·cases h
 ·rename_i c ho;split at h
  ·rename_i hc;split at h
   ·rename_i x y ha;split at h
    ·rename_i t t' ht;split at h
     ·rename_i e;subst e;split at h
      ·rename_i e i z hk;obtain ⟨hu,hi,hz,h0,Cw,D8,_⟩:=Uk hk;have Ce:i.size=1:=D8.symm;split at h
       ·cases h
       ·rename_i EP;have rx:=Bj R x;have ry:=Bj R y;split at h
        ·rename_i j off n ys vy hX hY;split at h
         ·rename_i xs hO;cases h;obtain ⟨v1,v2,v3,v4,_⟩:=hv;rw [hX] at rx;obtain ⟨ad,w',p',Bp,e0,g1,g2,g3,g4,g5,_⟩:=pM (ty:=o.type) R hO rx v3 hu hi hz Ce Cw (by omega) (by rw [Ce];exact TZ R hu ry hY v1) v2 v4;refine BN.value (Uh ho hc ha ht) (by rw [e0];exact g1) ?_;obtain ⟨p,hp⟩:=g4;obtain ⟨q1,q2⟩:=R.hr.regrow (o':=.ints (xs.drop off++ys)) hO hp.1 hp.2.1 hp.2.2 g5
          have G:C9 P Γ N S.h ρ w false (.mse S.h.length 1 0 (n+ys.length)) (S.h.set j none++[some (.ints (xs.drop off++ys))]) (.slice (some ⟨p'.blk,p'.off,none⟩) (n+ys.length) Bp) w':=
           ⟨⟨ρ++[p'],q1,⟨p',_,Bp,by rw [←R.hr.len];simp,rfl,g2,by unfold LB;unfold BT at v4;omega,fun _=>⟨by simp,by simpa using g3⟩⟩,q2,fun _ _ h=>De h⟩,fun h=>by cases h⟩
          exact Qn R o.dst G fun _ _ h=>h
         ·cases h
        ·rename_i j ys vy hX hY;split at h
         ·rename_i f x' L g hO;cases h;obtain ⟨v1,v2,v3,_⟩:=hv;rw [hX] at rx;obtain ⟨p,u,es,AR,hp,hA,DE⟩:=S9 R hO rx;have ex:a.eval x=u:=by simpa using DE.symm
          obtain ⟨w',u',p',g1,g2,g3,g4,g5⟩:=oU (ty:=o.type) hA rfl (fun b hb=>(R.hr.cel j _ p b hO hp hb).2.2) hu hi hz Ce Cw (by omega) (by rw [Ce];exact TZ R hu ry hY v1) v2 v3;refine BN.value (Uh ho hc ha ht) (by rw [ex];exact g1) ?_;exact bT R hO hp hA g2 g3 g4 g5 o.dst
         ·cases h
        ·cases h
      ·cases h
     ·cases h
    ·cases h
   ·cases h
  ·cases h
 ·cases h
def Vl (P:Program) (S:St) (o:Oper):Option (St×List Prop):=match Vm P S o with
 | some r=>some r
 | none=>O9 P S o
theorem am (R:AX P Γ N S ρ a w) {o:Oper} {S':St} {vs:List Prop} (h:Vl P S o=some (S',vs)) (hv:Bc vs):
 BN P (execOp a.eval o) w (fun v w'=>(∃ ρ',AX P Γ N S' ρ' (a.put o.dst v) w'/\ EH S.h ρ w S'.h ρ' w')/\ ((∀ t x y,o.op≠.store t x y)∨∃ k i p t x y,o.op= .store t x y/\ AY S.fr x= .mp k 1 i 0/\ ρ[k]? =some p/\ AM p.foot w w')):=by
 have wk: ∀ {G G':Value -> World -> Prop},(∀ v w',G v w' -> G' v w') -> BN P (execOp a.eval o) w G -> BN P (execOp a.eval o) w G':=fun hg D=>by
  rcases D with ⟨v,w',h1,h2⟩ | ⟨w',h1,h2⟩ | ⟨f,args,w',h1,h2⟩
  ·exact .inl ⟨v,w',h1,hg _ _ h2⟩
  ·exact .inr (.inl ⟨w',h1,hg _ _ h2⟩)
  ·exact .inr (.inr ⟨f,args,w',h1,h2.mono fun e CI ⟨v,e1,e2⟩=>⟨v,e1,hg _ _ e2⟩⟩)
 unfold Vl at h;split at h
 ·rename_i r hM;cases h;exact wk (fun v w' hx=>⟨hx.1,.inr hx.2⟩) (kG R hM hv)
 ·exact wk (fun v w' hx=>⟨hx,.inl fun t x y=>mg h⟩) (mf R h hv)
end
end Go.Proofs.YtekkngkphejfcaaGreatDoor
namespace Go.Proofs.YtekkngkphejfcaaGreatDoor
abbrev zAQ:=@Bool.false_ne_true
end Go.Proofs.YtekkngkphejfcaaGreatDoor
namespace Go.Proofs.YtekkngkphejfcaaGreatDoor
open Go.RowKit
def ES (P:Program) (Γ:Au) (f:Nat) (ds:List DV) (h:DH) (d:DV) (h':DH) (ext:Bool):Prop:=
 (∃ fn,P.funcs[f]? =some fn/\ fn.name≠ "runtime.NumGoroutine" /\ fn.body.isSome=true)/\
 ∀ (N:Nat -> Prop) (ρ:List AI) (w:World) (args:Array Value),BK P Γ N h ρ w -> B1 (MS N h ρ) w ρ ds args ->
  Calls P f args w fun e w'=>∃ v,e= .returned v/\ C9 P Γ N h ρ w ext d h' v w'
structure Bt where
 calls:List (DV×DH×Bool)
 co:List (Nat×DV)
 fz:List (Nat×Fz):=[]
 tg:List (List (Nat×Nat)×St):=[]
def Kt (ops:Array Oper) (S:St) (o:Oper):Option Bool:=match o.guard with
 | none=>some true
 | some (j,Zu)=>match (ops[j]?).bind (·.dst) with
  | some t=>match S.fr.getD t .any with
   | .bool b=>some (b==Zu)
   | .tup _ _=>some false
   | _=>none
  | none=>none
def Uy (co:List (Nat×DV)) (dst:Option Nat) (d:DV):DV×List Prop×List (Nat×DV):=match co with
 | []=>(d,[],[])
 | (t,d')::rest=>match dst with
  | some t'=>if t'=t then (d',[AN d d'],rest) else (d,[],co)
  | none=>(d,[],co)
def Ji (S:St):Op -> Bool
 | .move _=>true
 | .assign _=>true
 | .pick .. =>true
 | .binOp .shl .. =>false
 | .binOp .shr .. =>false
 | .binOp .quo .. =>false
 | .binOp .rem .. =>false
 | .binOp _ _ _ y _=>match AY S.fr y with
  | .nils=>false
  | _=>true
 | .unOp .. =>true
 | .convert .. =>true
 | .nilCheck _=>true
 | .fieldAddr .. =>true
 | .extract .. =>true
 | .makeFunc .. =>true
 | .build .. =>true
 | .field .. =>true
 | .call _=>true
 | .load _ x=>match AY S.fr x with
  | .mp .. =>false
  | _=>true
 | _=>false
def qR:Op -> Bool
 | .box .. =>true
 | .alloc _=>true
 | .buildSlice .. =>true
 | .makeSlice .. =>true
 | .store .. =>true
 | .makeMap .. =>true
 | .mapUpdate .. =>true
 | .insert .. =>true
 | .lookup .. =>true
 | .range .. =>true
 | .entry _=>true
 | .call c=>match c.callee with
  | .builtin .append=>true
  | .value _=>true
  | _=>false
 | _=>false
def PN (P:Program) (ops:Array Oper) (S:St) (co:List (Nat×DV)) (o:Oper):Option (St×List Prop×List (Nat×DV)):=match Kt ops S o with
 | none=>none
 | some false=>some (⟨Ed S.fr o.dst OY,S.h⟩,[],co)
 | some true=>match PX P S o.op with
  | none=>none
  | some (d,vc)=>match Uy co o.dst d with
   | (d',vs,DU)=>some (⟨Ed S.fr o.dst d',S.h⟩,(if Ji S o.op then vs else vc::vs),DU)
def PO (P:Program) (ops:Array Oper):List Oper -> St -> List (Nat×DV) -> Option (St×List Prop×List (Nat×DV))
 | [],S,co=>some (S,[],co)
 | o::rest,S,co=>match PN P ops S co o with
  | none=>none
  | some (S',vs,DU)=>match PO P ops rest S' DU with
   | none=>none
   | some (CX,Bm,g9)=>some (CX,vs++Bm,g9)
def OI (P:Program) (Γ:Au) (S:St) (calls:List (DV×DH×Bool)):Op -> Option (DV×DH×List Prop×Bool×List (DV×DH×Bool))
 | .box _ x=>match Hu (AY S.fr x) with
  | some l=>some (.ref S.h.length 0,S.h++[some (.cells l)],[],true,calls)
  | none=>none
 | .alloc t=>match P.info? t with
  | some i=>match i.zero with
   | some z=>if VM z then some (.mp S.h.length 1 0 0,S.h++[some (.bools (List.replicate z.cells.size false))],[],true,calls)
    else some (.ref S.h.length 0,S.h++[some (.cells (z.cells.toList.map E1))],[],true,calls)
   | none=>none
  | none=>none
 | .buildSlice t len parts=>match Kd P t with
  | some (k,_,_,_)=>if Uo parts.toList len&&decide (len<=65536/\ k.cells<=64) then match N8 k (parts.toList.map fun x=>AY S.fr x.2) with
   | some ob=>some (.msl S.h.length k.cells 0 len,S.h++[some ob],[],true,calls)
   | none=>none
   else none
  | none=>none
 | .makeSlice t x y=>match TL P t with
  | some (n,_,_)=>match AY S.fr x,AY S.fr y with
   | .int _ m,.int _ m'=>some (.msl S.h.length 1 0 m.toNat,S.h++[some (.mo (.sets n (List.replicate m.toNat none) none))],[m'=m/\ 0<=m/\ m<=1000000000000],true,calls)
   | _,_=>none
  | none=>match Kd P t with
   | some (k,_,i,z)=>if decide (i.bytes<=128) then match AY S.fr x,AY S.fr y with
    | .int _ n,.int _ n'=>some (.msl S.h.length k.cells 0 n.toNat,S.h++[some (dW k n.toNat z)],[n'=n/\ 0<=n/\ n<=1000000000000],true,calls)
    | _,_=>none
    else none
   | none=>none
 | .store t x y=>match Kz P S t (AY S.fr x) (AY S.fr y) with
  | some (h',vc)=>some (.any,h',[vc],false,calls)
  | none=>none
 | .call c=>match c.callee with
  | .builtin .append=>match c.args.toList with
   | [x,y]=>match c.argTypes.toList with
    | [t,t']=>if t=t' then match ZI P S t (AY S.fr x) (AY S.fr y) with
     | some (d,h',vc)=>some (d,h',[vc],false,calls)
     | none=>none
     else none
    | _=>none
   | _=>none
  | .value f=>match AY S.fr f,calls with
   | .fn g m cap,(d,h',ext)::rest=>some (d,h',[ES P Γ g (c.args.toList.map (AY S.fr)++(List.range m).map cap) S.h d h' ext],ext,rest)
   | _,_=>none
  | _=>none
 | op=>match Wl P S op with
  | some (d,h',vs,ext)=>some (d,h',vs,ext,calls)
  | none=>none
def MJ (P:Program) (Γ:Au) (ops:Array Oper) (S:St) (An:Bt) (o:Oper):Option (St×List Prop×Bool×Bt):=match Kt ops S o with
 | none=>none
 | some false=>some (⟨Ed S.fr o.dst OY,S.h⟩,[],true,An)
 | some true=>match Vl P S o with
  | some (S',vs)=>some (S',vs,false,An)
  | none=>match OI P Γ S An.calls o.op with
   | none=>none
   | some (d,h',vs,ext,calls)=>match Uy An.co o.dst d with
    | (d',Bm,DU)=>match US An.fz o.dst ⟨Ed S.fr o.dst d',h'⟩ with
     | none=>none
     | some (S',VW,Ye)=>some (S',vs++(Bm++VW),ext,⟨calls,DU,Ye,An.tg⟩)
def ET (P:Program) (Γ:Au) (ops:Array Oper):List Oper -> St -> Bt -> Option (St×List Prop×Bt)
 | [],S,An=>some (S,[],An)
 | o::rest,S,An=>match qR o.op with
  | true=>match MJ P Γ ops S An o with
   | none=>none
   | some (S',vs,_,CP)=>match ET P Γ ops rest S' CP with
    | none=>none
    | some (CX,Bm,Pg)=>some (CX,vs++Bm,Pg)
  | false=>match PN P ops S An.co o with
   | none=>none
   | some (S',vs,DU)=>match ET P Γ ops rest S' ⟨An.calls,DU,An.fz,An.tg⟩ with
    | none=>none
    | some (CX,Bm,Pg)=>some (CX,vs++Bm,Pg)
def hseq (P:Program) (Γ:Au) (ops:Array Oper):List (List Nat×Nat) -> List Nat -> List Nat -> St -> Bt -> Option (St×List Prop×Bt)
 | [],Ba,tail,S,An=>match PO P ops (E0 ops Ba) S An.co with
  | none=>none
  | some (S',vs,DU)=>match ET P Γ ops (E0 ops tail) S' ⟨An.calls,DU,An.fz,An.tg⟩ with
   | none=>none
   | some (CX,Bm,Pg)=>some (CX,vs++Bm,Pg)
 | (Gg,i)::Fh,Ba,tail,S,An=>match PO P ops (E0 ops Gg) S An.co with
  | none=>none
  | some (S',vs,DU)=>match ops[i]? with
   | none=>none
   | some o=>match MJ P Γ ops S' ⟨An.calls,DU,An.fz,An.tg⟩ o with
    | none=>none
    | some (CX,Bm,ext,CP)=>match ext with
     | false=>none
     | true=>match hseq P Γ ops Fh Ba tail CX CP with
      | none=>none
      | some (S3,Rk,M1)=>some (S3,vs++(Bm++Rk),M1)
section
variable {P:Program} {Γ:Au} {N:Nat -> Prop} {S:St} {ρ:List AI} {a:Act} {w:World} {F:Fence}
structure Dj (F:Fence) (P:Program):Prop where
 fn: ∀ f,F.fn f
 dep:F.depth=none
 calls: ∀ {f:FuncId} {args:Array Value} {w:World} {R:Ending -> World -> Prop},Calls P f args w R -> CallsIn F 0 P f args w R
theorem Dj.wide:Dj Fence.wide P:=⟨fun _=>trivial,rfl,fun h=>callsIn_wide.2 h⟩
theorem Dj.round (l:Nat):Dj (Fence.wide.inRound l) P:=⟨fun _=>trivial,rfl,fun h=>CallsIn.inRound _ (callsIn_wide.2 h)⟩
theorem Jh (R:AX P Γ N S ρ a w) {ops:Array Oper} {o:Oper} {r:Bool} (h:Kt ops S o=some r):Region.wanted o (yielded ops a.tmps)=r:=by
 unfold Kt at h;unfold Region.wanted;split at h
 ·rename_i hg;rw [hg];cases h;rfl
 ·rename_i j Zu hg;rw [hg];split at h
  ·rename_i t ht;split at h
   ·rename_i b hb;cases h;have hr:=R.fr.at t;rw [hb] at hr;have hv:a.tmps.getD t undef= .bool b:=hr
    have:a.tmps[t]? =some (.bool b):=by
     rw [zU] at hv;cases hx:a.tmps[t]? with
     | none=>rw [hx] at hv;cases hv
     | some u=>rw [hx] at hv;exact congrArg some hv
    simp [yielded,ht,this]
   ·rename_i m f hb;cases h;have hr:=R.fr.at t;rw [hb] at hr;obtain ⟨cs,hv,_⟩:=hr
    have:yielded ops a.tmps j=none:=by
     unfold yielded;rw [ht]
     show (match a.tmps[t]? with | some (.bool b)=>some b | _=>none)=none
     rw [zU] at hv;cases hx:a.tmps[t]? with
     | none=>rfl
     | some u=>rw [hx] at hv;have hv:u= .tuple cs:=hv;rw [hv]
    simp [this]
   ·cases h
  ·cases h
theorem Yw {co:List (Nat×DV)} {dst:Option Nat} {d d':DV} {vs:List Prop} {DU:List (Nat×DV)} (h:Uy co dst d=(d',vs,DU)) (hv:Bc vs) {M:Nat -> Prop} {v:Value} (hr:AJ M w d ρ v):AJ M w d' ρ v:=by
 unfold Uy at h;split at h
 ·cases h;exact hr
 ·split at h
  ·split at h
   ·cases h;exact hv.1 M w ρ v hr
   ·cases h;exact hr
  ·cases h;exact hr
theorem cL {op:Op} {d:DV} {vc:Prop} (h:pop P S op=some (d,vc)) (ht:Ji S op=true):vc:=by
 unfold pop at h;split at h
 ·cases h;trivial
 ·cases h;trivial
 ·repeat' (split at h)
  all_goals first | (cases h;trivial) | (cases h;done)
 ·rename_i t x;simp only [Ji] at ht;unfold Ld at h
  repeat' (split at h)
  all_goals first | (cases h;trivial) | (cases h;done) | (simp_all;done)
 ·rename_i op t x y t';unfold U9 at h;split at h
  ·split at h
   all_goals first | (cases h;trivial) | (cases h;done)
  ·split at h
   all_goals first | (cases h;trivial) | (cases h;done)
  ·rename_i e;simp [Ji,e] at ht
  ·rename_i e;simp [Ji,e] at ht
  ·rename_i e;simp [Ji,e] at ht
  ·cases ht
  ·cases ht
  ·cases ht
  ·cases ht
  ·split at h
   ·unfold U7 at h;split at h
    all_goals first | (cases h;trivial) | (cases h;done)
   ·cases h
  ·cases h
 ·repeat' (split at h)
  all_goals first | (cases h;trivial) | (cases h;done)
 ·repeat' (split at h)
  all_goals first | (cases h;trivial) | (cases h;done)
 ·repeat' (split at h)
  all_goals first | (cases h;trivial) | (cases h;done)
 ·repeat' (split at h)
  all_goals first | (cases h;trivial) | (cases h;done)
 ·cases ht
 ·repeat' (split at h)
  all_goals first | (cases h;trivial) | (cases h;done)
 ·split at h
  ·cases h;trivial
  ·cases h
 ·split at h
  ·unfold U4 at h;split at h
   ·split at h
    ·split at h
     ·unfold TS at h;split at h
      all_goals first | (cases h;trivial) | (cases h;done)
     ·cases h
    ·cases h
   ·split at h
    ·unfold Wi at h;split at h
     all_goals first | (cases h;trivial) | (cases h;done)
    ·cases h
   ·split at h
    ·unfold Wh at h;split at h
     all_goals first | (cases h;trivial) | (cases h;done)
    ·cases h
   ·cases h
  ·cases h
 ·cases h
theorem vl {op:BinOp} {t:TypeId} {x y d:DV} {vc:Prop} (h:Qx P op t x y=some (d,vc)):vc:=by
 unfold Qx at h;split at h
 ·split at h
  all_goals first | (cases h;trivial) | (cases h;done)
 ·split at h
  all_goals first | (cases h;trivial) | (cases h;done)
 ·cases h
theorem jp {op:Op} {d:DV} {vc:Prop} (h:PX P S op=some (d,vc)) (ht:Ji S op=true):vc:=by
 unfold PX at h;split at h
 ·unfold TR at h
  repeat' (split at h)
  all_goals first | (cases h;trivial) | (cases h;done)
 ·cases ht
 ·unfold UY at h
  repeat' (split at h)
  all_goals first | (cases h;trivial) | (cases h;done)
 ·cases ht
 ·split at h
  ·rename_i r hr;cases h;exact vl hr
  ·exact cL h ht
 ·exact cL h ht
theorem Sk (R:AX P Γ N S ρ a w) {ops:Array Oper} {co:List (Nat×DV)} {o:Oper} {S':St} {vs:List Prop} {DU:List (Nat×DV)} (h:PN P ops S co o=some (S',vs,DU)) (hv:Bc vs):
 S'.h=S.h/\ ((Region.wanted o (yielded ops a.tmps)=true/\ ∃ v,(∀ W,Keep N w W -> (execOp a.eval o).run P W= .ok (.value v) W)/\ AX P Γ N S' ρ (a.put o.dst v) w)∨(Region.wanted o (yielded ops a.tmps)=false/\ AX P Γ N S' ρ (a.put o.dst undef) w)):=by
 unfold PN at h;split at h
 ·cases h
 ·rename_i hw;cases h;exact ⟨rfl,.inr ⟨Jh R hw,II R _ Ro⟩⟩
 ·rename_i hw;split at h
  ·cases h
  ·rename_i d vc hp;split at h;rename_i d' Bm g9 Qh;cases h
   have eG:vc/\ Bc Bm:=by
    by_cases ht:Ji S o.op=true
    ·rw [yC ht] at hv;exact ⟨jp hp ht,hv⟩
    ·rw [yM ht] at hv;exact hv
   obtain ⟨v,g1,g2⟩:=oA R o hp eG.1;exact ⟨rfl,.inl ⟨Jh R hw,v,g1,II R _ (Yw Qh eG.2 g2)⟩⟩
theorem Sl {ops:Array Oper} {Q:Act -> Prop}: ∀ (l:List Oper) {S:St} {a:Act} {co:List (Nat×DV)} {S':St} {vs:List Prop} {DU:List (Nat×DV)},AX P Γ N S ρ a w -> PO P ops l S co=some (S',vs,DU) -> Bc vs ->
 (∀ a',S'.h=S.h -> AX P Γ N S' ρ a' w -> a'.defers=a.defers -> Q a') -> wpQuiet P ops (fun w'=>∃ x:Ri w,w'=x.W) Q l a
 | [],S,a,co,S',vs,DU,R,h,_,hQ=>by
  cases h;exact hQ a rfl R rfl
 | o::rest,S,a,co,S',vs,DU,R,h,hv,hQ=>by
  simp only [PO] at h;split at h
  ·cases h
  ·rename_i S1 Cs RE h1;split at h
   ·cases h
   ·rename_i S2 FD co2 h2;cases h;obtain ⟨Bb,CE⟩:=Cx.1 hv;obtain ⟨e1,hs⟩:=Sk R h1 Bb;unfold wpQuiet;have DR: ∀ v,(a.put o.dst v).defers=a.defers:=fun v=>by cases ho:o.dst <;> simp [Act.put]
    rcases hs with ⟨hw,v,g1,g2⟩ | ⟨hw,g2⟩
    ·rw [yC hw];refine ⟨v,?_,Sl rest g2 h2 CE fun a' q1 q2 q3=>hQ a' (q1.trans e1) q2 (q3.trans (DR v))⟩;rintro W ⟨x,rfl⟩;unfold Oper.quietAt;rw [g1 x.W (Keep.ofExt x.le)];exact ⟨rfl,rfl⟩
    ·rw [yM (by rw [hw];exact zAQ)];exact Sl rest g2 h2 CE fun a' q1 q2 q3=>hQ a' (q1.trans e1) q2 (q3.trans (DR undef))
theorem B1.append {M:Nat -> Prop} {l l':List DV} {t t':Array Value} (h:B1 M w ρ l t) (h':B1 M w ρ l' t'):B1 M w ρ (l++l') (t++t'):=by
 refine ⟨by simp [h.1,h'.1],fun i hi=>?_⟩;rcases zd i l.length with hl | hl
 ·have:=h.2 i hl;have ht:i<t.size:=by rw [←h.1];exact hl
  simp only [u8,zU] at this ⊢;rw [yW hl,zo ht];exact this
 ·have A7:i-l.length<l'.length:=by simp at hi;omega
  have:=h'.2 _ A7;have ht:t.size<=i:=by rw [←h.1];exact hl
  simp only [u8,zU] at this ⊢;rw [yh hl,Array.getElem?_append_right ht,←h.1];exact this
theorem mT {g:Nat} {args:Array Value} {fn:Func} (Qb:P.funcs[g]? =some fn) (JK:fn.name≠ "runtime.NumGoroutine") (YM:fn.body.isSome=true):(callFunc g args).run P w= .ok (.enter g args) w:=by
 have tT:fn.body.isNone=false:=by cases hb:fn.body <;> simp [hb] at YM ⊢
 have tS:(fn.name== "runtime.NumGoroutine")=false:=by simpa using JK
 unfold callFunc;rw [yU,show Sem.run P program w= .ok P w from rfl];simp only [Result.andThen,Qb,tS,tT,yt,zAA];rfl
theorem wy (R:AX P Γ N S ρ a w) {c:Call} {f:Operand} {g m:Nat} {cap:Nat -> DV} {d:DV} {h':DH} {ext:Bool} (o:Oper) (ho:o.op= .call c) (hc:c.callee= .value f) (hf:AY S.fr f= .fn g m cap)
 (hE:ES P Γ g (c.args.toList.map (AY S.fr)++(List.range m).map cap) S.h d h' ext):BN P (execOp a.eval o) w (C9 P Γ N S.h ρ w ext d h'):=by
 obtain ⟨⟨fn,Qb,JK,YM⟩,hE⟩:=hE;have hr:=Bj R f;rw [hf] at hr;obtain ⟨lb,hv,hs,KN⟩:=hr;refine .inr (.inr ⟨g,c.args.map a.eval++lb,w,?_,hE N ρ w _ R.hr (B1.append ⟨by simp,fun i hi=>?_⟩ ⟨by simp [hs],fun i hi=>?_⟩)⟩)
 ·unfold execOp;rw [ho]
  show ((resolve a.eval c o.type)>>=fun d=>invoke d.target d.args).run P w=_
  unfold resolve;rw [hc];simp only [Deferred.ofValue,hv];have he:((pure { target:=.fn (.func g) lb,args:=#[]++Array.map a.eval c.args }:Sem Deferred)>>=fun d=>invoke d.target d.args).run P w=(callFunc g (#[]++Array.map a.eval c.args++lb)).run P w:=rfl;rw [he,mT Qb JK YM];simp
 ·have A7:i<c.args.size:=by simpa using hi
  have:=Bj R c.args[i];simp [A7,this]
 ·have A7:i<m:=by simpa using hi
  obtain ⟨u,g1,g2⟩:=KN i A7;simp [A7,g1,g2]
theorem ZQ (R:AX P Γ N S ρ a w) {calls:List (DV×DH×Bool)} {o:Oper} {d:DV} {h':DH} {vs:List Prop} {ext:Bool} {RF:List (DV×DH×Bool)} (h:OI P Γ S calls o.op=some (d,h',vs,ext,RF)) (hv:Bc vs):
 BN P (execOp a.eval o) w (C9 P Γ N S.h ρ w ext d h'):=by
 unfold OI at h;split at h
 ·rename_i t x ho;split at h
  ·rename_i l hl;cases h;exact w7 R hl o ho true
  ·cases h
 ·rename_i t ho;split at h
  ·rename_i i hi;split at h
   ·rename_i z hz;split at h
    ·rename_i XO;cases h;exact xc R hi hz XO o ho true
    ·cases h;exact xb R hi hz o ho true
   ·cases h
  ·cases h
 ·rename_i t len parts ho;split at h
  ·rename_i k e i z hk;split at h
   ·rename_i hc;simp only [yG,yg] at hc;split at h
    ·rename_i ob hb;cases h;exact w5 R hk hc.1 hc.2 hb o ho true
    ·cases h
   ·cases h
  ·cases h
 ·rename_i t x y ho;split at h
  ·rename_i n e i hT;split at h
   ·rename_i k1 m k2 m' hx hy;cases h;obtain ⟨⟨rfl,v1,v2⟩,_⟩:=hv;exact pQ R hT hx hy ⟨v1,v2⟩ o ho true
   ·cases h
  split at h
  ·rename_i k e i z hk;split at h
   ·rename_i EP;split at h
    ·rename_i k1 n k2 n' hx hy;cases h;obtain ⟨⟨rfl,v1,v2⟩,_⟩:=hv;exact pP R hk hx hy ⟨v1,v2⟩ (by simpa using EP) o ho true
    ·cases h
   ·cases h
  ·cases h
 ·rename_i t x y ho;split at h
  ·rename_i h1 vc hs;cases h;exact ao R hs hv.1 o ho
  ·cases h
 ·rename_i c ho;split at h
  ·rename_i hc;split at h
   ·rename_i x y ha;split at h
    ·rename_i t t' ht;split at h
     ·rename_i e;subst e;split at h
      ·rename_i d1 h1 vc YQ;cases h;exact xT R YQ hv.1 o ho hc ha ht
      ·cases h
     ·cases h
    ·cases h
   ·cases h
  ·rename_i f hc;split at h
   ·rename_i g m cap d1 h1 ext1 rest hf;cases h;exact wy R o ho hc hf hv.1
   ·cases h
  ·cases h
 ·split at h
  ·rename_i hm;cases h;exact pO R o hm hv
  ·cases h
theorem Nv (hF:Dj F P) {o:Oper} (hd: ∀ c,o.op≠.defer c) {G:Value -> World -> Prop} (h:BN P (execOp a.eval o) w G) {K:Act -> World -> Prop} {Q:Exit -> Act -> World -> Prop} (hK: ∀ v w',G v w' -> K (a.put o.dst v) w'):o.wpIn F 0 P a w K Q:=by
 refine ⟨fun f _=>hF.fn f,?_⟩;rw [zAT _ _ _ hd];rcases h with ⟨v,w',h1,h2⟩ | ⟨w',h1,h2⟩ | ⟨f,args,w',h1,h2⟩
 ·rw [h1];exact hK v w' h2
 ·rw [h1];exact hK undef w' h2
 ·rw [h1];refine ⟨fun hx=>(by rw [hF.dep] at hx;cases hx),(hF.calls h2).mono ?_⟩;rintro e CI ⟨v,rfl,hG⟩;exact hK v CI hG
theorem ZA (hF:Dj F P) (R:AX P Γ N S ρ a w) {ops:Array Oper} {An:Bt} {o:Oper} (hd: ∀ c,o.op≠.defer c) {S':St} {vs:List Prop} {ext:Bool} {CP:Bt} (h:MJ P Γ ops S An o=some (S',vs,ext,CP)) (hv:Bc vs)
 {K:Act -> World -> Prop} {Q:Exit -> Act -> World -> Prop} (hK: ∀ ρ' a' w',AX P Γ N S' ρ' a' w' -> EH S.h ρ w S'.h ρ' w' -> a'.defers=a.defers -> (ext=true -> Ar w w') -> K a' w'):
 if Region.wanted o (yielded ops a.tmps) then o.wpIn F 0 P a w K Q else (∀ f,o.about P w a.eval=some f -> F.fn f)/\ K (a.put o.dst undef) w:=by
 have DR: ∀ v,(a.put o.dst v).defers=a.defers:=fun v=>by cases ho:o.dst <;> simp [Act.put]
 unfold MJ at h;split at h
 ·cases h
 ·rename_i hw;cases h;rw [yM (by rw [Jh R hw];exact zAQ)];exact ⟨fun f _=>hF.fn f,hK ρ _ _ (II R _ Ro) (EH.refl _ _ _) (DR _) fun _=>Ar.refl w⟩
 ·rename_i hw;rw [yC (Jh R hw)];split at h
  ·rename_i S1 Cs hM;cases h;exact Nv hF hd (am R hM hv) fun v w' ⟨⟨ρ',g1,g2⟩,_⟩=>hK ρ' _ _ g1 g2 (DR v) fun e=>by cases e
  split at h
  ·cases h
  ·rename_i d h1 Cs ext1 calls YR;split at h;rename_i d' Bm DU Qh;split at h
   ·cases h
   ·rename_i S2 VW Ye Ie;cases h;obtain ⟨Bb,Xb⟩:=Cx.1 hv;obtain ⟨CE,Lp⟩:=Cx.1 Xb;refine Nv hF hd (ZQ R YR Bb) fun v w' G=>?_
    obtain ⟨ρ',g1,g2⟩:=Qn R o.dst G (d':=d') fun M ρ' hr=>Yw Qh CE hr
    obtain ⟨g3,g4⟩:=Yf _ Ie Lp P Γ N ρ' _ _ g1;exact hK ρ' _ _ g3 (g2.trans ⟨g4,fun _ _ h=>h⟩) (DR v) G.ext
theorem KT (hF:Dj F P) {ops:Array Oper} (Aw:Dq ops=true) {Q:Exit -> Act -> World -> Prop}: ∀ (l:List Oper) (_: ∀ o∈l,o∈ops) {S:St} {ρ:List AI} {a:Act} {w:World} {An:Bt} {S':St} {vs:List Prop} {CP:Bt},
 AX P Γ N S ρ a w -> ET P Γ ops l S An=some (S',vs,CP) -> Bc vs ->
 (∀ ρ' a' w',AX P Γ N S' ρ' a' w' -> EH S.h ρ w S'.h ρ' w' -> a'.defers=a.defers -> Q .normal a' w') -> wpListIn F 0 P ops Q l a w
 | [],_,S,ρ,a,w,An,S',vs,CP,R,h,_,hQ=>by
  cases h;exact hQ ρ a w R (EH.refl _ _ _) rfl
 | o::rest,hl,S,ρ,a,w,An,S',vs,CP,R,h,hv,hQ=>by
  have hd: ∀ c,o.op≠.defer c:=by
   obtain ⟨j,hj,e⟩:=Array.getElem_of_mem (hl o (by simp));exact Hc Aw (j:=j) (by rw [zN hj,e])
  have Dt: ∀ o∈rest,o∈ops:=fun o ho=>hl o (by simp [ho])
  have DR: ∀ v,(a.put o.dst v).defers=a.defers:=fun v=>by cases ho:o.dst <;> simp [Act.put]
  simp only [ET] at h;unfold wpListIn;split at h
  ·split at h
   ·cases h
   ·rename_i S1 Cs ext1 LQ h1;split at h
    ·cases h
    ·rename_i S2 FD Gn h2;cases h;obtain ⟨Bb,CE⟩:=Cx.1 hv;exact ZA hF R hd h1 Bb fun ρ' a' w' R' st Dw _=>KT hF Aw rest Dt R' h2 CE fun ρ'' GE CI Ft EL Hl=>hQ ρ'' GE CI Ft (st.trans EL) (Hl.trans Dw)
  ·split at h
   ·cases h
   ·rename_i S1 Cs RE h1;split at h
    ·cases h
    ·rename_i S2 FD Gn h2;cases h;obtain ⟨Bb,CE⟩:=Cx.1 hv;obtain ⟨e1,hs⟩:=Sk R h1 Bb
     have go: ∀ v,AX P Γ N S1 ρ (a.put o.dst v) w -> wpListIn F 0 P ops Q rest (a.put o.dst v) w:=fun v R'=>
      KT hF Aw rest Dt R' h2 CE fun ρ'' GE CI Ft EL Hl=>hQ ρ'' GE CI Ft (by rw [←e1];exact EL) (Hl.trans (DR v))
     rcases hs with ⟨hw,v,g1,g2⟩ | ⟨hw,g2⟩
     ·rw [yC hw];refine ⟨fun f _=>hF.fn f,?_⟩;rw [zAT _ _ _ hd,g1 w (Keep.ofExt (Ar.refl w))];exact go v g2
     ·rw [yM (by rw [hw];exact zAQ)];exact ⟨fun f _=>hF.fn f,go undef g2⟩
theorem WO {ops:Array Oper}: ∀ (l:List Nat),∀ o∈E0 ops l,o∈ops
 | [],o,h=>by simp [E0] at h
 | i::l,o,h=>by
  simp only [E0] at h;split at h
  ·rename_i o' ho;rcases yd.1 h with rfl | h
   ·exact zAB ho
   ·exact WO l o h
  ·exact WO l o h
theorem eK (hF:Dj F P) {ops:Array Oper} (Aw:Dq ops=true) {Q:Exit -> Act -> World -> Prop}: ∀ (D4:List (List Nat×Nat)) (Ba tail:List Nat) {S:St} {ρ:List AI} {a:Act} {w:World} {An:Bt} {S':St} {vs:List Prop} {CP:Bt},
 (tail.all fun t=>decide (t<ops.size))=true -> AX P Γ N S ρ a w -> hseq P Γ ops D4 Ba tail S An=some (S',vs,CP) -> Bc vs ->
 (∀ ρ' a' w',AX P Γ N S' ρ' a' w' -> EH S.h ρ w S'.h ρ' w' -> a'.defers=a.defers -> Q .normal a' w') -> Qc F 0 P ops Q D4 Ba tail a w
 | [],Ba,tail,S,ρ,a,w,An,S',vs,CP,ht,R,h,hv,hQ=>by
  simp only [hseq] at h;split at h
  ·cases h
  ·rename_i S1 Cs RE h1;split at h
   ·cases h
   ·rename_i S2 FD Gn h2;cases h;obtain ⟨Bb,CE⟩:=Cx.1 hv;refine uE ht (Sl _ R h1 Bb fun a' e1 R' Dw=>?_);exact KT hF Aw _ (WO tail) R' h2 CE fun ρ'' GE CI Ft EL Hl=>hQ ρ'' GE CI Ft (by rw [←e1];exact EL) (Hl.trans Dw)
 | (Gg,i)::Fh,Ba,tail,S,ρ,a,w,An,S',vs,CP,ht,R,h,hv,hQ=>by
  simp only [hseq] at h;split at h
  ·cases h
  ·rename_i S1 Cs RE h1;split at h
   ·cases h
   ·rename_i o ho;split at h
    ·cases h
    ·rename_i S2 FD ext Gn h2;split at h
     ·cases h
     ·split at h
      ·cases h
      ·rename_i S3 Rk M1 h3;cases h;obtain ⟨Bb,Cd⟩:=Cx.1 hv;obtain ⟨CE,Lp⟩:=Cx.1 Cd
       show wpQuiet _ _ _ _ _ _
       refine Sl _ R h1 Bb fun a' e1 R' Dw=>?_
       unfold wpOpIn;simp only [ho];refine ZA hF R' (Hc Aw ho) h2 CE fun ρ'' GE CI Ft EL Hl If=>?_
       rw [e1] at EL;exact ⟨If rfl,eK hF Aw Fh Ba tail ht Ft h3 Lp fun ρ3 a3 w3 R3 Mg uK=>hQ ρ3 a3 w3 R3 (EL.trans Mg) (uK.trans (Hl.trans Dw))⟩
end
end Go.Proofs.YtekkngkphejfcaaGreatDoor
namespace Go.Proofs.YtekkngkphejfcaaGreatDoor
abbrev zz:=@Nat.zero_le
end Go.Proofs.YtekkngkphejfcaaGreatDoor
namespace Go.Proofs.YtekkngkphejfcaaGreatDoor
open Go.RowKit
def D0 (L:Nat) (ρ ρ':List AI):Prop:=∀ (k:Nat) (p:AI),k<L -> ρ[k]? =some p -> ρ'[k]? =some p
theorem D0.refl (L:Nat) (ρ:List AI):D0 L ρ ρ:=fun _ _ _ h=>h
theorem D0.trans {L:Nat} {a b c:List AI} (h:D0 L a b) (k:D0 L b c):D0 L a c:=fun i p hi hp=>k i p hi (h i p hi hp)
structure Bd (F:Fence) (B:Option Nat) (w:World):Prop where
 le: ∀ b,B=some b -> b<=w.heap.size
 rd: ∀ l,F.round=some l -> ∃ r,w.heap[l]? =some (.loop r)
theorem Bd.step {P:Program} {Γ:Au} {N:Nat -> Prop} {h h':DH} {ρ ρ':List AI} {F:Fence} {B:Option Nat} {w w':World} (b:Bd F B w) (H:BK P Γ N h ρ w) (st:A8 h ρ w h' ρ' w'):Bd F B w':=
 ⟨fun x e=>yO (b.le x e) st.upd.size,fun l hl=>by
  obtain ⟨r,hr⟩:=b.rd l hl;refine ⟨r,(st.upd.block l (yE.1 hr).1 ?_).trans hr⟩;rintro ⟨k,o,p,h1,h2,h3⟩;obtain ⟨_,_,c,t,z,h4⟩:=H.cel k o p l h1 h2 h3;rw [hr] at h4;cases h4;cases t⟩
theorem Bd.wide {B:Nat} {w:World} (h:B<=w.heap.size):Bd Fence.wide (some B) w:=⟨fun b e=>by cases e;exact h,fun l hl=>by cases hl⟩
theorem Bd.none {w:World}:Bd Fence.wide none w:=⟨fun b e=>(by cases e),fun l hl=>by cases hl⟩
def MR:Option Nat -> List Deferred -> World -> Prop
 | none,ds,_=>ds= []
 | some B,ds,w=>Dz B ds w
structure BS (P:Program) (Γ:Au) (L:Nat) where
 I:(Nat -> Prop) -> DH -> List AI -> World -> Prop
 st: ∀ {N:Nat -> Prop} {h:DH} {ρ:List AI} {w:World} {h':DH} {ρ':List AI} {w':World},I N h ρ w -> BK P Γ N h ρ w -> BK P Γ N h' ρ' w' -> A8 h ρ w h' ρ' w' -> D0 L ρ ρ' -> I N h' ρ' w'
def Oh (P:Program) (Γ:Au) (L:Nat) (N0:Nat -> Prop) (h0:DH) (ρ0:List AI) (w0:World):BS P Γ L where
 I:=fun N h ρ w=>N=N0/\ A8 h0 ρ0 w0 h ρ w/\ D0 L ρ0 ρ
 st:=fun ⟨e,s,k⟩ _ _ st k'=>⟨e,s.trans st,k.trans k'⟩
abbrev QY (P:Program) (Γ:Au) (L:Nat):=Exit -> St -> BS P Γ L -> Prop
def QE {P:Program} {Γ:Au} {L:Nat} (Q:QY P Γ L):Exit -> St -> BS P Γ L -> Prop
 | .panic _,_,_=>False
 | .outgrown,_,_=>False
 | e,S,Y=>Q e S Y
def Tr (P:Program) (Γ:Au) (F:Fence) (B:Option Nat) (L:Nat) (Y:BS P Γ L) (c:Code) (S:St) (Q:QY P Γ L):Prop:=
 ∀ N ρ a w,AX P Γ N S ρ a w -> Y.I N S.h ρ w -> MR B a.defers w -> Bd F B w ->
  c.wpIn F 0 P (fun e a' w'=>∃ S' ρ' N' Y',QE Q e S' Y'/\ AX P Γ N' S' ρ' a' w'/\ Y'.I N' S'.h ρ' w'/\ MR B a'.defers w'/\ Bd F B w') a w
def BF (L:Nat) (S S':St):Prop:=∀ P Γ N ρ a w,AX P Γ N S ρ a w -> ∃ ρ',AX P Γ N S' ρ' a w/\ A8 S.h ρ w S'.h ρ' w/\ D0 L ρ ρ'
theorem BF.refl (L:Nat) (S:St):BF L S S:=fun _ _ _ ρ _ _ R=>⟨ρ,R,A8.refl _ _ _,D0.refl _ _⟩
theorem BF.trans {L:Nat} {A B C:St} (h:BF L A B) (k:BF L B C):BF L A C:=fun P Γ N ρ a w R=>by
 obtain ⟨ρ1,R1,s1,k1⟩:=h P Γ N ρ a w R;obtain ⟨ρ2,R2,s2,k2⟩:=k P Γ N ρ1 a w R1;exact ⟨ρ2,R2,s1.trans s2,k1.trans k2⟩
section
variable {P:Program} {Γ:Au} {N:Nat -> Prop} {S:St} {F:Fence} {B:Option Nat} {L:Nat} {Y:BS P Γ L} {Q Q':QY P Γ L}
theorem QE.mono (h: ∀ e S Y,Q e S Y -> Q' e S Y) {e:Exit} {S:St} (hq:QE Q e S Y):QE Q' e S Y:=by
 cases e <;> first | exact hq | exact h _ _ _ hq
theorem Tr.mono {c:Code} (h:Tr P Γ F B L Y c S Q) (hq: ∀ e S Y,Q e S Y -> Q' e S Y):Tr P Γ F B L Y c S Q':=fun N ρ a w R y m b=>
 zAJ (h N ρ a w R y m b) fun _ _ _ ⟨S',ρ',N',Y',h1,h2⟩=>⟨S',ρ',N',Y',h1.mono hq,h2⟩
theorem Tr.weaken {c:Code} {S':St} (hS:BF L S S') (h:Tr P Γ F B L Y c S' Q):Tr P Γ F B L Y c S Q:=fun N ρ a w R y m b=>by
 obtain ⟨ρ1,R1,s1,k1⟩:=hS P Γ N ρ a w R;exact h N ρ1 a w R1 (Y.st y R.hr R1.hr s1 k1) m b
theorem Pq {ρ ρ':List AI} {h':DH} {ds:List Deferred} {w w':World} (H:BK P Γ N S.h ρ w) (st:A8 S.h ρ w h' ρ' w') (m:MR B ds w):MR B ds w':=by
 cases B with
 | none=>exact m
 | some B=>
 refine Dz.upd st.upd m fun k _ hk e=>?_
 obtain ⟨i,o,p,h1,h2,h3⟩:=hk;obtain ⟨_,_,c,t,z,h4⟩:=H.cel i o p k h1 h2 h3;rw [h4] at e;cases e;cases t
theorem Tr.skip (h:Q .normal S Y):Tr P Γ F B L Y .skip S Q:=fun N ρ _ _ R y m b=>wpIn_skip ⟨S,ρ,N,Y,h,R,y,m,b⟩
theorem Tr.ret (h:Q .ret S Y):Tr P Γ F B L Y .ret S Q:=fun N ρ _ _ R y m b=>wpIn_ret ⟨S,ρ,N,Y,h,R,y,m,b⟩
theorem Tr.exit {id:Nat} (h:Q (.exit id) S Y):Tr P Γ F B L Y (.exit id) S Q:=fun N ρ _ _ R y m b=>wpIn_exit ⟨S,ρ,N,Y,h,R,y,m,b⟩
def Oa (K:St -> BS P Γ L -> Prop) (Q:QY P Γ L):QY P Γ L
 | .normal,S,Y=>K S Y
 | e,S,Y=>Q e S Y
theorem Tr.seq {x y:Code} (h:Tr P Γ F B L Y x S (Oa (fun S' Y'=>Tr P Γ F B L Y' y S' Q) Q)):Tr P Γ F B L Y (.seq x y) S Q:=fun N ρ a w R y m b=>by
 refine wpIn_seq (zAJ (h N ρ a w R y m b) ?_);rintro e a' w' ⟨S',ρ',N',Y',h1,h2,h3,h4,h5⟩;cases e with
 | normal=>exact h1 N' ρ' a' w' h2 h3 h4 h5
 | ret=>exact ⟨S',ρ',N',Y',h1,h2,h3,h4,h5⟩
 | exit id=>exact ⟨S',ρ',N',Y',h1,h2,h3,h4,h5⟩
 | goto t=>exact ⟨S',ρ',N',Y',h1,h2,h3,h4,h5⟩
 | panic c=>exact h1.elim
 | outgrown=>exact h1.elim
theorem Tr.cond {c:Operand} {x y:Code} {b:Bool} (hc:AY S.fr c= .bool b) (h1:b=true -> Tr P Γ F B L Y x S Q) (h2:b=false -> Tr P Γ F B L Y y S Q):Tr P Γ F B L Y (.cond c x y) S Q:=fun N ρ a w R y m bb=>by
 have hr:=Bj R c;rw [hc] at hr;refine wpIn_cond (t:=b) hr ?_;cases b
 ·exact h2 rfl N ρ a w R y m bb
 ·exact h1 rfl N ρ a w R y m bb
theorem jH {F:Fence} {n:Nat} {P:Program} {Q:Exit -> Act -> World -> Prop} {a:Act} {w:World} {c:Code} (h:c.wpIn F n P (Exit.noGoto Q) a w):(Code.scope c).wpIn F n P Q a w:=by
 intro b k cs rj hb hr;have h0:(lone (b.atR a (.code (.scope c)::k)) cs w).fenced P F:=fenced_calm hb hr rfl;have s0:step P (lone (b.atR a (.code (.scope c)::k)) cs w)= .next (lone (b.atR a (.code c:: .inScope c::k)) cs w):=step_lone_go (by simp [stepG,stepG.exec,Frame.atR]);obtain ⟨e,a₁,w₁,hq,Nb⟩:=h b (.inScope c::k) cs rj hb hr;have s1:step P (lone (b.atR a₁ (.inScope c::k)) cs w₁)= .next (lone (b.atR a₁ k) cs w₁):=step_lone_go (by simp [stepG,stepG.exec,Frame.atR]);cases e with
 | normal=>exact ⟨.normal,a₁,w₁,hq,.head h0 s0 (StepsIn.trans Nb (.one (fenced_calm hb hr rfl) s1))⟩
 | exit id=>exact ⟨.exit id,a₁,w₁,hq,fun k' hk=>.head h0 s0 (Nb.1 k' hk),fun Cm hk=>let ⟨k₁,h1,h2⟩:=Nb.2 Cm hk;⟨k₁,h1,.head h0 s0 h2⟩⟩
 | goto l=>exact hq.elim
 | ret=>exact ⟨_,a₁,w₁,hq,.of_steps (.one h0 s0) Nb⟩
 | panic ch=>exact ⟨_,a₁,w₁,hq,.of_steps (.one h0 s0) Nb⟩
 | outgrown=>exact ⟨_,a₁,w₁,hq,.of_steps (.one h0 s0) Nb⟩
def pH (Q:QY P Γ L):QY P Γ L
 | .goto _,_,_=>False
 | e,S,Y=>Q e S Y
theorem Tr.scope {c:Code} (h:Tr P Γ F B L Y c S (pH Q)):Tr P Γ F B L Y (.scope c) S Q:=fun N ρ a w R y m b=>by
 refine jH (zAJ (h N ρ a w R y m b) ?_);rintro e a' w' ⟨S',ρ',N',Y',h1,h2⟩;cases e with
 | goto l=>exact h1.elim
 | _=>exact ⟨S',ρ',N',Y',h1,h2⟩
theorem Tr.label {l:Nat} (h:Q .normal S Y):Tr P Γ F B L Y (.label l) S Q:=fun N ρ a w R y m b=>wpIn_label ⟨S,ρ,N,Y,h,R,y,m,b⟩
def w9 (id:Nat) (Q:QY P Γ L):QY P Γ L
 | .exit i,S,Y=>if i=id then Q .normal S Y else Q (.exit i) S Y
 | e,S,Y=>Q e S Y
theorem Tr.block {id:Nat} {c:Code} (h:Tr P Γ F B L Y c S (w9 id Q)):Tr P Γ F B L Y (.block id c) S Q:=fun N ρ a w R y m b=>by
 refine wpIn_block (zAJ (h N ρ a w R y m b) ?_);rintro e a' w' ⟨S',ρ',N',Y',h1,h2⟩;cases e with
 | exit i=>
  show if i=id then _ else _
  by_cases e:i=id
  ·rw [yC e];have h1:(if i=id then Q .normal S' Y' else Q (.exit i) S' Y'):=h1;rw [yC e] at h1;exact ⟨S',ρ',N',Y',h1,h2⟩
  ·rw [yM e];have h1:(if i=id then Q .normal S' Y' else Q (.exit i) S' Y'):=h1;rw [yM e] at h1;exact ⟨S',ρ',N',Y',h1,h2⟩
 | normal=>exact ⟨S',ρ',N',Y',h1,h2⟩
 | ret=>exact ⟨S',ρ',N',Y',h1,h2⟩
 | goto t=>exact ⟨S',ρ',N',Y',h1,h2⟩
 | panic c=>exact h1.elim
 | outgrown=>exact h1.elim
theorem Tr.loop {c:Code} (I:Nat -> St -> BS P Γ L -> Prop) (n:Nat) (h0:I n S Y) (h: ∀ n S Y,I n S Y -> Tr P Γ F B L Y c S (Oa (fun S' Y'=>∃ n',n'<n/\ I n' S' Y') Q)):Tr P Γ F B L Y (.loop c) S Q:=fun N ρ a w R y m b=>by
 refine wpIn_loop_ghost (fun k a' w'=>∃ S' ρ' N' Y',I k S' Y'/\ AX P Γ N' S' ρ' a' w'/\ Y'.I N' S'.h ρ' w'/\ MR B a'.defers w'/\ Bd F B w') n ⟨S,ρ,N,Y,h0,R,y,m,b⟩ ?_;rintro k a' w' ⟨S',ρ',N',Y',h1,h2,h3,h4,h5⟩;refine zAJ (h k S' Y' h1 N' ρ' a' w' h2 h3 h4 h5) ?_;rintro e a2 w2 ⟨S2,ρ2,N2,Y2,g1,g2,g3,g4,g5⟩;cases e with
 | normal=>
  obtain ⟨n',AK,hI⟩:=g1;exact ⟨n',AK,S2,ρ2,N2,Y2,hI,g2,g3,g4,g5⟩
 | ret=>exact ⟨S2,ρ2,N2,Y2,g1,g2,g3,g4,g5⟩
 | exit id=>exact ⟨S2,ρ2,N2,Y2,g1,g2,g3,g4,g5⟩
 | goto t=>exact ⟨S2,ρ2,N2,Y2,g1,g2,g3,g4,g5⟩
 | panic c=>exact g1.elim
 | outgrown=>exact g1.elim
theorem AX.ext {ρ:List AI} {a:Act} {w w':World} (R:AX P Γ N S ρ a w) (hE:Ar w w'):AX P Γ N S ρ a w':=⟨R.hr.ext hE,R.fr.out (BM.ext ρ hE)⟩
theorem Tr.done {S':St} {e:Exit} {ρ ρ':List AI} {a a':Act} {w w':World} (R:AX P Γ N S ρ a w) (y:Y.I N S.h ρ w) (m:MR B a.defers w) (b:Bd F B w) (hk:QE Q e S' Y) (R':AX P Γ N S' ρ' a' w') (st:A8 S.h ρ w S'.h ρ' w') (X6:D0 L ρ ρ') (Dw:a'.defers=a.defers):
 ∃ S' ρ' N' Y',QE Q e S' Y'/\ AX P Γ N' S' ρ' a' w'/\ Y'.I N' S'.h ρ' w'/\ MR B a'.defers w'/\ Bd F B w':=
 ⟨S',ρ',N,Y,hk,R',Y.st y R.hr R'.hr st X6,by rw [Dw];exact Pq R.hr st m,b.step R.hr st⟩
theorem BF.fr {fr L7:List DV} {h:DH} (hl:L7.length=fr.length) (hd: ∀ i,i<fr.length -> AN (fr.getD i .any) (L7.getD i .any)):BF L ⟨fr,h⟩ ⟨L7,h⟩:=fun P Γ N ρ a w R=>
 ⟨ρ,⟨R.hr,⟨by rw [hl];exact R.fr.1,fun i hi=>hd i (by rw [←hl];exact hi) _ _ _ _ (R.fr.2 i (by rw [←hl];exact hi))⟩⟩,A8.refl _ _ _,D0.refl _ _⟩
theorem AN.refl (d:DV):AN d d:=fun _ _ _ _ h=>h
theorem AN.any (d:DV):AN d .any:=fun _ _ _ _ _=>trivial
theorem AN.int {k:IntKind} {a b:Int} (h:a=b):AN (.int k a) (.int k b):=by rw [h];exact AN.refl _
theorem AN.bool {a b:Bool} (h:a=b):AN (.bool a) (.bool b):=by rw [h];exact AN.refl _
theorem AN.ints_nil:AN .nils (.ints []):=fun M w ρ v h=>⟨none,0,h,yf _,zz _,fun j hj=>absurd hj (yT j)⟩
theorem AN.sl_nil (m:Nat) (f:Nat -> Nat -> DV):AN .nils (.sl m 0 f):=fun M w ρ v h=>⟨none,0,h,yf _,zz _,fun i j hi=>absurd hi (yT i)⟩
def forget (live:List Nat) (fr:List DV):List DV:=(fr.zipIdx).map fun x=>if live.contains x.2 then x.1 else .any
theorem vH (live:List Nat) (fr:List DV):(forget live fr).length=fr.length:=by simp [forget]
theorem vI (live:List Nat) (fr:List DV) {i:Nat} (hi:i<fr.length):(forget live fr).getD i .any=if live.contains i then fr.getD i .any else .any:=by
 simp [forget,hi]
theorem BF.forget (live:List Nat) (fr:List DV) (h:DH):BF L ⟨fr,h⟩ ⟨forget live fr,h⟩:=BF.fr (vH _ _) fun i hi=>by
 rw [vI live fr hi];split
 ·exact AN.refl _
 ·exact AN.any _
def Cj:List Nat -> Nat -> Option Nat
 | [],_=>none
 | x::σ,k=>if x=k then some 0 else (Cj σ k).map (· +1)
def Ex (σ:List Nat):DV -> DV
 | .ref k j=>match Cj σ k with
  | some k'=>.ref k' j
  | none=>.any
 | .mse k m off n=>match Cj σ k with
  | some k'=>.mse k' m off n
  | none=>.any
 | .mri k i=>match Cj σ k with
  | some k'=>.mri k' i
  | none=>.any
 | .msl k m off n=>match Cj σ k with
  | some k'=>.msl k' m off n
  | none=>.any
 | .mp k m i j=>match Cj σ k with
  | some k'=>.mp k' m i j
  | none=>.any
 | .it k=>match Cj σ k with
  | some k'=>.it k'
  | none=>.any
 | .agg m f=>.agg m fun j=>((List.range m).map fun i=>Ex σ (f i)).getD j .any
 | .tup m f=>.tup m fun j=>((List.range m).map fun i=>Ex σ (f i)).getD j .any
 | .fn g m c=>.fn g m fun j=>((List.range m).map fun i=>Ex σ (c i)).getD j .any
 | d=>d
def SX (σ:List Nat):Option DO -> Option DO
 | some (.cells l)=>some (.cells (l.map (Ex σ)))
 | o=>o
def FA (σ:List Nat) (S:St):St:=⟨S.fr.map (Ex σ),σ.map fun k=>SX σ (S.h.getD k none)⟩
theorem IM: ∀ {σ:List Nat} {k k':Nat},Cj σ k=some k' -> σ[k']? =some k
 | [],_,_,h=>by cases h
 | x::σ,k,k',h=>by
  unfold Cj at h;split at h
  ·rename_i e;cases h;subst e;rfl
  ·cases hr:Cj σ k with
   | none=>rw [hr] at h;cases h
   | some i=>
    rw [hr] at h;have e:k'=i+1:=(yK h).symm;subst e;have:=IM hr;simpa using this
theorem nZ {f:Nat -> DV} {m j:Nat} (hj:j<m):((List.range m).map f).getD j .any=f j:=by simp [hj]
theorem WD {M:Nat -> Prop} {w:World} {ρ:List AI} {f:Nat -> DV} {m j:Nat} {u:Value} (hj:j<m) (h:AJ M w (f j) ρ u):AJ M w (((List.range m).map f).getD j .any) ρ u:=by rw [nZ hj];exact h
theorem nB {M M':Nat -> Prop} {w:World} {σ:List Nat} {ρ ρ':List AI} (hM: ∀ b,M' b -> M b) (hρ: ∀ (k k':Nat) (p:AI),σ[k']? =some k -> ρ[k]? =some p -> ρ'[k']? =some p): ∀ (d:DV) {v:Value},AJ M w d ρ v -> AJ M' w (Ex σ d) ρ' v:=by
 have low: ∀ (d:DV) {v:Value},AJ M w d [] v -> AJ M' w d [] v:=fun d v h=>h.out d ⟨fun _ _ _ _=>rfl,fun b hb=>.inl (hM b hb),fun k p hk=>by simp at hk⟩
 intro d
 induction d with
 | any=>intro v _;trivial
 | nils=>intro v h;exact h
 | int k n=>intro v h;exact h
 | bool b=>intro v h;exact h
 | str s=>intro v h;exact h
 | ints l=>intro v h;exact low (.ints l) h
 | bools l=>intro v h;exact low (.bools l) h
 | sl m n f _=>intro v h;exact low (.sl m n f) h
 | fp m f _=>intro v h;exact low (.fp m f) h
 | agg m f ih=>
  rintro v ⟨cs,e,hs,h⟩;exact ⟨cs,e,hs,fun j hj=>let ⟨u,h1,h2⟩:=h j hj;⟨u,h1,WD hj (ih j h2)⟩⟩
 | tup m f ih=>
  rintro v ⟨cs,e,hs,h⟩;exact ⟨cs,e,hs,fun j hj=>let ⟨u,h1,h2⟩:=h j hj;⟨u,h1,WD hj (ih j h2)⟩⟩
 | fn g m c ih=>
  rintro v ⟨cs,e,hs,h⟩;exact ⟨cs,e,hs,fun j hj=>let ⟨u,h1,h2⟩:=h j hj;⟨u,h1,WD hj (ih j h2)⟩⟩
 | ref k j=>
  rintro v ⟨p,hp,e⟩;simp only [Ex];cases hk:Cj σ k with
  | none=>trivial
  | some k'=>exact ⟨p,hρ k k' p (IM hk) hp,e⟩
 | msl k m off n=>
  rintro v ⟨p,cap,hp,r⟩;simp only [Ex];cases hk:Cj σ k with
  | none=>trivial
  | some k'=>exact ⟨p,cap,hρ k k' p (IM hk) hp,r⟩
 | mp k m i j=>
  rintro v ⟨p,hp,e⟩;simp only [Ex];cases hk:Cj σ k with
  | none=>trivial
  | some k'=>exact ⟨p,hρ k k' p (IM hk) hp,e⟩
 | yl l=>intro v h;exact h
 | cst u=>intro v h;exact h
 | mse k m off n=>
  rintro v ⟨p,a,cap,hp,r⟩;simp only [Ex];cases hk:Cj σ k with
  | none=>trivial
  | some k'=>exact ⟨p,a,cap,hρ k k' p (IM hk) hp,r⟩
 | mri k i=>
  rintro v ⟨p,vs,hp,r⟩;simp only [Ex];cases hk:Cj σ k with
  | none=>trivial
  | some k'=>exact ⟨p,vs,hρ k k' p (IM hk) hp,r⟩
 | it k=>
  rintro v ⟨p,hp,e⟩;simp only [Ex];cases hk:Cj σ k with
  | none=>trivial
  | some k'=>exact ⟨p,hρ k k' p (IM hk) hp,e⟩
def Wf:AI:=⟨0,0,0,undef,fun _=>False⟩
theorem BF.compact (σ:List Nat) (S:St) (h1:σ.Nodup) (h2: ∀ k∈σ,k<S.h.length) (h3: ∀ k,k<L -> σ[k]? =some k):BF L S (FA σ S):=fun P Γ N ρ a w R=>by
 obtain ⟨ρ',Fl⟩: ∃ ρ',ρ'=σ.map fun k=>ρ.getD k Wf:=⟨_,rfl⟩
 have Hq: ∀ {k':Nat} {p:AI},ρ'[k']? =some p -> ∃ k,σ[k']? =some k/\ ρ[k]? =some p:=fun {k' p} h=>by
  rw [Fl,yS] at h;cases hk:σ[k']? with
  | none=>rw [hk] at h;cases h
  | some k=>
   rw [hk] at h;have AK:k<ρ.length:=by rw [R.hr.len];exact h2 k (yn hk)
   refine ⟨k,rfl,?_⟩;simp [AK] at h;simp [AK,h]
 have put: ∀ (k k':Nat) (p:AI),σ[k']? =some k -> ρ[k]? =some p -> ρ'[k']? =some p:=fun k k' p hk hp=>by
  rw [Fl,yS,hk];simp [u8,hp]
 have Hk: ∀ {k':Nat} {o':DO},(FA σ S).h[k']? =some (some o') -> ∃ k o,σ[k']? =some k/\ S.h[k]? =some (some o)/\ SX σ (some o)=some o':=fun {k' o'} h=>by
  show ∃ k o,_
  have h:(σ.map fun k=>SX σ (S.h.getD k none))[k']? =some (some o'):=h;rw [yS] at h;cases hk:σ[k']? with
  | none=>rw [hk] at h;cases h
  | some k=>
   rw [hk] at h;have AK:k<S.h.length:=h2 k (yn hk);have h:SX σ (S.h.getD k none)=some o':=yK h;have e:S.h.getD k none=S.h[k]:=by simp [AK]
   rw [e] at h;cases ho:S.h[k] with
   | none=>rw [ho] at h;cases h
   | some o=>rw [ho] at h;exact ⟨k,o,rfl,by simp [AK,ho],h⟩
 have hM: ∀ b,MO (FA σ S).h ρ' b -> MO S.h ρ b:=by
  rintro b ⟨k',o',p,g1,g2,g3⟩;obtain ⟨k,o,e1,e2,_⟩:=Hk g1;obtain ⟨k2,e3,e4⟩:=Hq g2;have:k2=k:=yK (e3.symm.trans e1);subst this;exact ⟨k2,o,p,e2,e4,g3⟩
 have YS: ∀ b,MS N (FA σ S).h ρ' b -> MS N S.h ρ b:=fun b hb=>hb.imp id (hM b)
 have O:BM (MS N S.h ρ) w [] (MS N (FA σ S).h ρ') w []:=⟨fun _ _ _ _=>rfl,fun b hb=>.inl (YS b hb),fun k p hk=>by simp at hk⟩;have low: ∀ (d:DV) {v:Value},AJ (MS N S.h ρ) w d ρ v -> AJ (MS N (FA σ S).h ρ') w (Ex σ d) ρ' v:=fun d v h=>nB YS put d h
 refine ⟨ρ',⟨⟨by simp [Fl,FA],fun k' o' DG=>?_,fun k' o' p b g1 g2 g3=>?_,fun i i' o1 o2 p1 p2 b AV g1 g2 g3 g4 g5 g6=>?_,R.hr.nlt,R.hr.gi⟩,⟨by simp [FA,R.fr.1],fun i hi=>?_⟩⟩,⟨AM.refl _ w,fun b hb=>.inl (hM b hb)⟩,fun k p hk hp=>put k k p (h3 k hk) hp⟩
 ·obtain ⟨k,o,e1,e2,e3⟩:=Hk DG;obtain ⟨p,hp,hr⟩:=R.hr.obj k o e2;refine ⟨p,put k k' p e1 hp,?_⟩;cases o with
  | cells l=>
   cases e3
   show AS w p (l.map (Ex σ)).length _
   rw [yr];refine AS.out hr rfl fun j u hj hu=>?_
   have:(l.map (Ex σ)).getD j .any=Ex σ (l.getD j .any):=by simp [hj]
   rw [this];exact low _ hu
  | ints l=>cases e3;exact AS.out hr rfl fun j u _ hu=>hu
  | bools l=>cases e3;exact AS.out hr rfl fun j u _ hu=>hu
  | arr m n f=>cases e3;exact AS.out hr rfl fun j u _ hu=>AJ.out _ O hu
  | iter encs=>
   cases e3;obtain ⟨gf,lb,Rd,q1,q2,q3,q4⟩:=hr;exact ⟨gf,lb,Rd,q1,q2,fun b hb=>⟨fun hm=>(q3 b hb).1 (YS b hm),(q3 b hb).2⟩,q4⟩
  | mo x=>cases e3;exact hr
 ·obtain ⟨k,o,e1,e2,_⟩:=Hk g1;obtain ⟨k2,e3,e4⟩:=Hq g2;have:k2=k:=yK (e3.symm.trans e1);subst this;exact R.hr.cel k2 o p b e2 e4 g3
 ·obtain ⟨k,o,e1,e2,_⟩:=Hk g1;obtain ⟨k2,o2,e3,e4,_⟩:=Hk g2;obtain ⟨k3,e5,e6⟩:=Hq g3;obtain ⟨k4,e7,e8⟩:=Hq g4;have:k3=k:=yK (e5.symm.trans e1);subst this;have:k4=k2:=yK (e7.symm.trans e3);subst this;refine R.hr.dis k3 k4 o o2 p1 p2 b (fun e=>AV ?_) e2 e4 e6 e8 g5 g6;subst e;exact (List.getElem?_inj (yJ.1 e5).1 h1).1 (e5.trans e7.symm)
 ·have A7:i<S.fr.length:=by simpa [FA] using hi
  have:(FA σ S).fr.getD i .any=Ex σ (S.fr.getD i .any):=by simp [FA,A7]
  rw [this];exact low _ (R.fr.2 i A7)
end
end Go.Proofs.YtekkngkphejfcaaGreatDoor
namespace Go.Proofs.YtekkngkphejfcaaGreatDoor
open Go.RowKit
def bw (P:Program) (S:St):ResultVar -> Option DV
 | .tmp t=>some (S.fr.getD t .any)
 | .cell x t=>match S.fr.getD x .any with
  | .ref k j=>match Ld P S t (.ref k j) with
   | some (d,_)=>some d
   | none=>none
  | _=>none
def Mr (P:Program) (S:St):List ResultVar -> Option (List DV)
 | []=>some []
 | r::rs=>match bw P S r with
  | some d=>match Mr P S rs with
   | some ds=>some (d::ds)
   | none=>none
  | none=>none
def IE:List DV -> DV
 | [d]=>d
 | ds=>.tup ds.length fun j=>ds.getD j .any
section
variable {P:Program} {Γ:Au} {N:Nat -> Prop} {S:St} {ρ:List AI} {a:Act} {w:World}
theorem pd {t:TypeId} {k j:Nat} {d:DV} {vc:Prop} (h:Ld P S t (.ref k j)=some (d,vc)):vc:=by
 unfold Ld at h
 repeat' (split at h)
 all_goals first | (cases h;trivial) | (cases h;done) | (simp_all;done)
def SW (tmps:Array Value):ResultVar -> Sem Value
 | .tmp t=>pure (tmps.getD t undef)
 | .cell x t=>do loadVar t (←asAddr (tmps.getD x undef))
theorem bx (R:AX P Γ N S ρ a w): ∀ (rs:List ResultVar) (ds:List DV),Mr P S rs=some ds -> ∃ vs:List Value,(rs.mapM (SW a.tmps)).run P w= .ok vs w/\ vs.length=ds.length/\ ∀ i,i<ds.length -> AJ (MS N S.h ρ) w (ds.getD i .any) ρ (vs.getD i undef)
 | [],ds,h=>by
  cases h;exact ⟨[],rfl,rfl,fun i hi=>absurd hi (yT i)⟩
 | r::rs,ds,h=>by
  simp only [Mr] at h;split at h
  ·rename_i d hd;split at h
   ·rename_i vu E6;cases h;obtain ⟨vs,h1,h2,h3⟩:=bx R rs vu E6
    obtain ⟨v,g1,g2⟩: ∃ v,(SW a.tmps r).run P w= .ok v w/\ AJ (MS N S.h ρ) w d ρ v:=by
     unfold bw at hd;split at hd
     ·cases hd;exact ⟨_,rfl,R.fr.at _⟩
     ·rename_i x t;split at hd
      ·rename_i k j e;split at hd
       ·rename_i d' vc hl;cases hd;have hx:=R.fr.at x;rw [e] at hx;obtain ⟨v,q1,q2⟩:=db R hx hl (pd hl);obtain ⟨p,hp,hv⟩:=hx;have q:=q1 w (Keep.ofExt (Ar.refl w));rw [hv,V2] at q;refine ⟨v,?_,q2⟩
        show (do loadVar t (←asAddr (a.tmps.getD x undef)):Sem Value).run P w=_
        rw [hv];exact q
       ·cases hd
      ·cases hd
    refine ⟨v::vs,?_,by simp [h2],fun i hi=>?_⟩
    ·rw [List.mapM_cons,yU,g1];simp only [Result.andThen,yU,h1,zAh]
    ·cases i with
     | zero=>exact g2
     | succ i=>exact h3 i (by simpa using hi)
   ·cases h
  ·cases h
theorem bv (R:AX P Γ N S ρ a w) {fn:Func} {ds:List DV} (h:Mr P S fn.results.toList=some ds): ∃ v,(results fn a.tmps).run P w= .ok v w/\ AJ (MS N S.h ρ) w (IE ds) ρ v:=by
 obtain ⟨vs,h1,h2,h3⟩:=bx R _ _ h
 have hm:(fn.results.mapM (SW a.tmps)).run P w= .ok vs.toArray w:=by
  rw [Array.mapM_eq_mapM_toList,←bind_pure_comp,yU,h1];rfl
 have Tz:(results fn a.tmps).run P w= .ok (if h:vs.toArray.size=1 then vs.toArray[0] else .tuple vs.toArray) w:=by
  show (do let vs←fn.results.mapM (SW a.tmps);pure (if h:vs.size=1 then vs[0] else .tuple vs):Sem Value).run P w=_
  rw [yU,hm];rfl
 refine ⟨_,Tz,?_⟩
 match ds,vs,h2,h3 with
 | [],[],_,_=>exact ⟨#[],rfl,rfl,fun j hj=>absurd hj (yT j)⟩
 | [d],[v],_,h3=>exact h3 0 (by simp)
 | d::d'::ds,v::v'::vs,h2,h3=>
  have: ¬ ((v::v'::vs).toArray.size=1):=by simp
  rw [dif_neg this];refine ⟨_,rfl,by simpa using h2,fun j hj=>?_⟩;have BI:j<(v::v'::vs).length:=by rw [h2];exact hj
  exact ⟨(v::v'::vs).getD j undef,by simp only [zAy,u8,xz BI];rfl,h3 j hj⟩
def Po (h:DH):Prop:=∀ (k:Nat) (encs:List (Array Value)),h[k]? ≠some (some (.iter encs))
theorem AX.shut (R:AX P Γ N S ρ a w) (hi:Po S.h) {B:Nat} (hB:Γ.ng<=B) {W:World} (hs:Rh B w W):AX P Γ N S ρ a W:=by
 have nc: ∀ {b:Nat},Dh w b -> W.heap[b]? =w.heap[b]? :=fun {b} ⟨c,t,z,h⟩=>
  hs.block b (yE.1 h).1 fun hx=>by rw [h] at hx;cases hx.2;cases t
 have O:BM (MS N S.h ρ) w ρ (MS N S.h ρ) W ρ:=⟨fun b _ _ ⟨_,_,_,hc⟩=>nc (.cells hc),fun b h=>.inl h,fun _ _ h=>h⟩
 have hr: ∀ {p:AI} {n:Nat} {Rw:Nat -> Value -> Prop},AS w p n Rw -> W.heap[p.blk]? =w.heap[p.blk]? :=fun {p n Rw} h=>by
  obtain ⟨_,cs,t,h2,_⟩:=h;exact nc (.cells h2)
 refine ⟨⟨R.hr.len,fun k o hk=>?_,fun k o p b h1 h2 h3=>?_,R.hr.dis,fun b hb=>⟨yN (R.hr.nlt b hb).1 hs.size,(R.hr.nlt b hb).2⟩,Γ.st _ _ R.hr.gi (hs.mono fun i _ hx=>yO hB hx.1)⟩,R.fr.out O⟩
 ·obtain ⟨p,hp,ho⟩:=R.hr.obj k o hk;refine ⟨p,hp,?_⟩;cases o with
  | cells l=>exact AS.out ho (hr ho) fun j u _ hu=>AJ.out _ O hu
  | ints l=>exact AS.out ho (hr ho) fun j u _ hu=>hu
  | bools l=>exact AS.out ho (hr ho) fun j u _ hu=>hu
  | arr m n f=>exact AS.out ho (hr ho) fun j u _ hu=>AJ.out _ O.nil hu
  | iter encs=>exact absurd hk (hi k encs)
  | mo x=>exact Ko.out ho fun b hb AK=>nc (R.hr.cel k _ p b hk hp hb).2.2
 ·obtain ⟨g1,g2,c,t,z,g3⟩:=R.hr.cel k o p b h1 h2 h3;exact ⟨g1,g2,c,t,z,(nc ⟨c,t,z,g3⟩).trans g3⟩
theorem A8.shut {h0 h:DH} {ρ0 ρ:List AI} {w0 w W:World} (st:A8 h0 ρ0 w0 h ρ w) (hs:Rh w0.heap.size w W):A8 h0 ρ0 w0 h ρ W:=
 ⟨st.upd.comp hs fun i hi hx=>absurd hx.1 (by omega),st.grow⟩
theorem B1.anys (M:Nat -> Prop) (w:World) (ρ:List AI) (n:Nat):B1 M w ρ (List.replicate n .any) (Array.replicate n undef):=
 ⟨by simp,fun i hi=>by
  have:(List.replicate n DV.any).getD i .any= .any:=by
   rw [u8,zL];split <;> rfl
  rw [this];trivial⟩
def HF (d:DV):Prop:=∀ (M:Nat -> Prop) (w:World) (ρ:List AI) (v:Value),AJ M w d ρ v -> AJ M w d [] v
def xx (L:Nat) (S:St) (rs:List DV) (d:DV) (h':DH):Prop:=
 (AN (IE rs) d/\ S.h=h')∨(Po S.h/\ AN (IE rs) d/\ HF d/\ L<=S.h.length/\ (FA (List.range L) S).h=h')
def FX (P:Program) (fn:Func) (L:Nat) (d:DV) (h':DH) (e:Exit) (S':St):Prop:=
 (e= .normal∨e= .ret)/\ ∃ CX,BF L S' CX/\ ∃ rs,Mr P CX fn.results.toList=some rs/\ xx L CX rs d h'
theorem ES.of_tr {f:Nat} {fn:Func} {c:Code} {ds:List DV} {h:DH} {d:DV} {h':DH} {ext:Bool} (hf:P.funcs[f]? =some fn) (hb:fn.body=some c) (JK:fn.name≠ "runtime.NumGoroutine") (hni:Po h')
 (H: ∀ (B:Nat) (N:BS P Γ h.length),Tr P Γ Fence.wide (some B) h.length N c ⟨ds++List.replicate (fn.ntmps-ds.length) .any,h⟩ (fun e S Y=>Y=N/\ FX P fn h.length d h' e S)) (If:ext=true -> h= []):ES P Γ f ds h d h' ext:=by
 refine ⟨⟨fn,hf,JK,by rw [hb];rfl⟩,fun N ρ w args HR CK=>?_⟩;refine wx w.heap.size hf hb ?_;have Ae:ds.length=args.size:=CK.1
 have R:AX P Γ N ⟨ds++List.replicate (fn.ntmps-ds.length) .any,h⟩ ρ { tmps:=args++Array.replicate (fn.ntmps-args.size) undef,defers:=[] } w:=
  ⟨HR,B1.append CK (by rw [Ae];exact B1.anys _ _ _ _)⟩
 have:=H w.heap.size (Oh P Γ h.length N h ρ w) N ρ _ w R ⟨rfl,A8.refl _ _ _,D0.refl _ _⟩ trivial (Bd.wide (yf _));refine wpIn_wide.1 (zAJ this ?_);rintro e a' w' ⟨S',ρ',N',Y',h1,h2,h3,h4,h5⟩
 have key:Y'=Oh P Γ h.length N h ρ w -> FX P fn h.length d h' e S' -> Dz w.heap.size a'.defers w'/\ ∀ W,Rh w.heap.size w' W -> ∃ v,(results fn a'.tmps).run P W= .ok v W/\ ∃ v',Ending.returned v= .returned v'/\ C9 P Γ N h ρ w ext d h' v' W:=by
  rintro rfl ⟨_,CX,CW,rs,Tw,hd | ⟨hi,hd,hn,hl,hh⟩⟩
  all_goals
   obtain ⟨e0,h3,h5⟩:=h3;have e0:=e0.symm;subst e0
  ·obtain ⟨hd,rfl⟩:=hd;refine ⟨h4,fun W hW=>?_⟩;obtain ⟨ρ'',Ft,Vo,W7⟩:=CW P Γ N ρ' a' w' h2;have RW:=Ft.shut hni (Γ.lo _ HR.gi) hW;obtain ⟨v,g1,g2⟩:=bv RW Tw;have st:A8 h ρ w CX.h ρ'' W:=(h3.trans Vo).shut hW;refine ⟨v,g1,v,rfl,⟨⟨ρ'',RW.hr,hd _ _ _ _ g2,st,fun k p hp=>?_⟩,fun he=>?_⟩⟩
   ·have hk:k<h.length:=by rw [←HR.len];exact (yJ.1 hp).1
    exact W7 k p hk (h5 k p hk hp)
   ·have:=If he;subst this;exact st.upd.toExt fun i _ ⟨k,o,p,q1,_⟩=>by simp at q1
  ·refine ⟨h4,fun W hW=>?_⟩;obtain ⟨ρ'',Ft,Vo,W7⟩:=CW P Γ N ρ' a' w' h2;have RW:=Ft.shut hi (Γ.lo _ HR.gi) hW;obtain ⟨v,g1,g2⟩:=bv RW Tw;have st:A8 h ρ w CX.h ρ'' W:=(h3.trans Vo).shut hW;obtain ⟨ρ3,R3,Mg,k3⟩:=BF.compact (L:=h.length) (List.range h.length) CX List.nodup_range (fun k hk=>yN (yP.1 hk) hl) (fun k hk=>by simp [hk]) P Γ N ρ'' a' W RW;rw [hh] at Mg;have i9:=R3.hr;rw [hh] at i9;refine ⟨v,g1,v,rfl,⟨⟨ρ3,i9,?_,st.trans Mg,fun k p hp=>?_⟩,fun he=>?_⟩⟩
   ·have r0:=hn _ _ _ _ (hd _ _ _ _ g2);have r1:AJ (MS N h' ρ3) W d [] v:=AJ.out _ ⟨fun _ _ _ _=>rfl,fun b hb=>hb.elim (fun hx=>.inl (.inl hx)) fun hx=>(Mg.grow b hx).imp .inr id,fun _ _ hx=>by simp at hx⟩ r0;exact AJ.out _ ⟨fun _ _ _ _=>rfl,fun b hb=>.inl hb,fun _ _ hx=>by simp at hx⟩ r1
   ·have hk:k<h.length:=by rw [←HR.len];exact (yJ.1 hp).1
    exact k3 k p hk (W7 k p hk (h5 k p hk hp))
   ·have:=If he;subst this;exact (st.trans Mg).upd.toExt fun i _ ⟨k,o,p,q1,_⟩=>by simp at q1
 cases e with
 | normal=>exact key h1.1 h1.2
 | ret=>exact key h1.1 h1.2
 | exit id=>exact absurd h1.2.1 (by simp)
 | goto t=>exact absurd h1.2.1 (by simp)
 | panic ch=>exact h1.elim
 | outgrown=>exact h1.elim
def GH (d:DV):Prop:=∀ (M M':Nat -> Prop) (w w':World) (ρ ρ':List AI) (v:Value),AJ M w d ρ v -> AJ M' w' d ρ' v
theorem HF.agg {m:Nat} {f:Nat -> DV} (h: ∀ j,j<m -> HF (f j)):HF (.agg m f):=fun M w ρ _ ⟨cs,e,hs,hc⟩=>⟨cs,e,hs,fun j hj=>let ⟨u,h1,h2⟩:=hc j hj;⟨u,h1,h j hj M w ρ u h2⟩⟩
theorem HF.tup {m:Nat} {f:Nat -> DV} (h: ∀ j,j<m -> HF (f j)):HF (.tup m f):=fun M w ρ _ ⟨cs,e,hs,hc⟩=>⟨cs,e,hs,fun j hj=>let ⟨u,h1,h2⟩:=hc j hj;⟨u,h1,h j hj M w ρ u h2⟩⟩
theorem GH.int (k:IntKind) (n:Int):GH (.int k n):=fun _ _ _ _ _ _ _ h=>h
theorem GH.bool (b:Bool):GH (.bool b):=fun _ _ _ _ _ _ _ h=>h
theorem GH.tup {m:Nat} {f:Nat -> DV} (h: ∀ j,j<m -> GH (f j)):GH (.tup m f):=fun M M' w w' ρ ρ' _ ⟨cs,e,hs,hc⟩=>⟨cs,e,hs,fun j hj=>let ⟨u,h1,h2⟩:=hc j hj;⟨u,h1,h j hj M M' w w' ρ ρ' u h2⟩⟩
theorem NO {M:Nat -> Prop} (hM: ∀ b,M b -> b<w.heap.size/\ Γ.ng<=b) (hg:Γ.gi w):BK P Γ M [] [] w:=
 ⟨rfl,fun k o hk=>by simp at hk,fun k o p b h1=>by simp at h1,fun k k' o o' p p' b _ h1=>by simp at h1,hM,hg⟩
theorem MT {M:Nat -> Prop} {b:Nat}:MS M [] [] b↔M b:=⟨fun h=>h.elim id fun ⟨k,o,p,h1,_⟩=>by simp at h1,.inl⟩
theorem ES.frame {f:Nat} {ds:List DV} {d:DV} (h0:ES P Γ f ds [] d [] true) (E6: ∀ x∈ds,HF x) (h:DH):ES P Γ f ds h d h true:=by
 refine ⟨h0.1,fun N ρ w args HR CK=>?_⟩;refine (h0.2 (MS N h ρ) [] w args (NO (fun b hb=>HR.lt2 hb) HR.gi) ⟨CK.1,fun i hi=>?_⟩).mono ?_
 ·have hx:=E6 (ds.getD i .any) (by simp [hi]);exact AJ.out _ (C0 (fun b hb=>MT.1 hb) []) (hx _ _ _ _ (CK.2 i hi))
 ·rintro e w' ⟨v,rfl,⟨⟨ρ',g1,g2,g3,g4⟩,g5⟩⟩;have hE:=g5 rfl;have hρ:ρ'= []:=zJ (by rw [g1.len];rfl);subst hρ;exact ⟨v,rfl,⟨⟨ρ,HR.ext hE,Ms (AJ.out _ (C0 (fun b hb=>MT.2 hb) []) g2),A8.ext hE,fun _ _ h=>h⟩,g5⟩⟩
def Ad (h:DH) (d d0:DV):Prop:=∀ (P:Program) (Γ:Au) (N:Nat -> Prop) (ρ:List AI) (w:World) (v:Value),BK P Γ N h ρ w -> AJ (MS N h ρ) w d ρ v -> AJ (fun _=>False) w d0 [] v
theorem Ad.nref {h:DH} {d:DV} (hn:HF d):Ad h d d:=fun _ _ _ _ _ _ _ hr=>AJ.out _ (C0 (fun _ hb=>hb.elim) []) (hn _ _ _ _ hr)
theorem Ad.ints {h:DH} {k n:Nat} {l:List Int} (hk:h[k]? =some (some (.ints l))) (hn:n=l.length):Ad h (.msl k 1 0 n) (.ints l):=by
 rintro P Γ N ρ w v H ⟨p,cap,hp,e,g1,g2,_⟩;subst hn;obtain ⟨p',A6,hr⟩:=H.obj k _ hk;have ep:p'=p:=yK (A6.symm.trans hp);subst ep;refine ⟨_,cap,e,g1,g2,fun j hj=>⟨p'.blk,p'.off,by simp,id,?_⟩⟩;obtain ⟨u,e1,e2⟩:=AS.cell hr hj;rw [e1,e2]
theorem Ad.bools {h:DH} {k n:Nat} {l:List Bool} (hk:h[k]? =some (some (.bools l))) (hn:n=l.length):Ad h (.msl k 1 0 n) (.bools l):=by
 rintro P Γ N ρ w v H ⟨p,cap,hp,e,g1,g2,_⟩;subst hn;obtain ⟨p',A6,hr⟩:=H.obj k _ hk;have ep:p'=p:=yK (A6.symm.trans hp);subst ep;refine ⟨_,cap,e,g1,g2,fun j hj=>⟨p'.blk,p'.off,by simp,id,?_⟩⟩;obtain ⟨u,e1,e2⟩:=AS.cell hr hj;rw [e1,e2]
theorem Ad.ref {h:DH} {k m:Nat} {l:List DV} {f:Nat -> DV} (hk:h[k]? =some (some (.cells l))) (hm:m<=l.length) (hf: ∀ j,j<m -> Ad h (l.getD j .any) (f j)):Ad h (.ref k 0) (.fp m f):=by
 rintro P Γ N ρ w v H ⟨p,hp,e⟩;obtain ⟨p',A6,hr⟩:=H.obj k _ hk;have ep:p'=p:=yK (A6.symm.trans hp);subst ep;refine ⟨p'.blk,p'.off,e,fun j hj=>⟨id,?_⟩⟩;obtain ⟨u,e1,e2⟩:=AS.cell hr (j:=j) (by omega);exact ⟨u,e1,hf j hj P Γ N ρ w u H e2⟩
theorem ES.snap {f:Nat} {ds DT:List DV} {d:DV} (h0:ES P Γ f DT [] d [] true) (h:DH) (hl:DT.length=ds.length) (hs: ∀ i,i<ds.length -> Ad h (ds.getD i .any) (DT.getD i .any)) (hd:GH d):ES P Γ f ds h d h true:=by
 refine ⟨h0.1,fun N ρ w args HR CK=>?_⟩;refine (h0.2 (fun _=>False) [] w args (NO (fun b hb=>hb.elim) HR.gi) ⟨by rw [hl];exact CK.1,fun i hi=>?_⟩).mono ?_
 ·rw [hl] at hi;exact AJ.out _ (C0 (fun b hb=>MT.1 hb) []) (hs i hi P Γ N ρ w _ HR (CK.2 i hi))
 ·rintro e w' ⟨v,rfl,⟨⟨ρ',g1,g2,g3,g4⟩,g5⟩⟩;have hE:=g5 rfl;exact ⟨v,rfl,⟨⟨ρ,HR.ext hE,hd _ _ _ _ _ _ _ g2,A8.ext hE,fun _ _ h=>h⟩,g5⟩⟩
end
end Go.Proofs.YtekkngkphejfcaaGreatDoor
namespace Go.Proofs.YtekkngkphejfcaaGreatDoor
open Go.RowKit
section
variable {F:Fence} {n:Nat} {P:Program} {ops:Array Oper} {Q:Exit -> Act -> World -> Prop}
def Gd (F:Fence) (n:Nat) (P:Program) (ops:Array Oper) (Q:Exit -> Act -> World -> Prop) (R:Nat -> World -> World -> Prop):Nat -> Array Bool -> Act -> World -> Prop
 | 0,AQ,a,w=>(∀ j,j<ops.size -> AQ.getD j true=true)/\ Q .normal a w
 | m+1,AQ,a,w=>Region.ready .any ops AQ≠[]/\ ∀ i∈Region.ready .any ops AQ,wpOpIn F n P ops (NP Q) i (fun a' w'=>R i w w'/\ Gd F n P ops Q R m (AQ.setIfInBounds i true) a' w') a w
theorem Zh {R R':Nat -> World -> World -> Prop} (hR: ∀ i w w',R' i w w' -> R i w w'): ∀ (m:Nat) (AQ:Array Bool) (a:Act) (w:World),Gd F n P ops Q R' m AQ a w -> Gd F n P ops Q R m AQ a w
 | 0,_,_,_,h=>h
 | m+1,_,_,_,h=>⟨h.1,fun i hi=>zAY (fun _ _ h'=>⟨hR _ _ _ h'.1,Zh hR m _ _ _ h'.2⟩) (h.2 i hi)⟩
theorem nC {AQ:Array Bool} (h: ∀ j,j<ops.size -> AQ.getD j true=true):Region.ready .any ops AQ= []:=by
 cases hr:Region.ready .any ops AQ with
 | nil=>rfl
 | cons i l=>
  have hi:i∈Region.ready .any ops AQ:=by rw [hr];simp
  obtain ⟨h1,oi,h2,_⟩:=zAc.1 hi;rw [h i (yE.1 h2).1] at h1;cases h1
theorem Zo {R:Nat -> World -> World -> Prop}: ∀ (m:Nat) (AQ:Array Bool) (a:Act) (w:World),Gd F n P ops Q R m AQ a w -> wpAnyIn F n P .any ops Q m AQ a w
 | 0,_,_,_,h=>⟨nC h.1,h.2⟩
 | m+1,_,_,_,h=>⟨fun h0=>absurd h0 h.1,fun i hi=>zAY (fun a' w' h'=>Zo m _ a' w' h'.2) (Zk (h.2 i hi))⟩
theorem jG (hF: ∀ f,F.fn f) (Aw:Dq ops=true) {R:Nat -> World -> World -> Prop} {T:World -> Prop} {i:Nat} {oi:Oper} {v:Value} (hi:ops[i]? =some oi) (QK: ∀ (j:Nat) (o:Oper) cs b,ops[j]? =some o -> o.op≠.select cs b) (fa: ∀ w,R i w w):
 ∀ (m:Nat) (AQ:Array Bool) (a:Act) (w:World),Fu ops AQ ->
  (∀ j oj,ops[j]? =some oj -> j≠i -> AQ.getD j true=false -> (∀ e∈oj.after,Region.binds .any e=true -> e.on≠i) -> oi.apart ops oj=true) ->
  (∀ j,j<ops.size -> j≠i -> AQ.getD j true=false -> Fa ops ops.size j i=false -> ∀ w w',T w -> R j w w' -> T w') ->
  i∈Region.ready .any ops AQ -> YieldsIf P ops T oi v a -> T w ->
  Gd F n P ops Q R m (AQ.setIfInBounds i true) (a.put oi.dst v) w -> Gd F n P ops Q R (m+1) AQ a w:=by
 intro m
 induction m with
 | zero=>
  intro AQ a w BP _ _ hr hy hS H;have Lx:=(zAc.1 hr).1;refine ⟨fun h=>(by rw [h] at hr;cases hr),fun j hj=>?_⟩
  by_cases D9:j=i
  ·subst D9;exact Rj hF (Hc Aw hi) hi hy hS ⟨fa w,H⟩
  ·exfalso
   obtain ⟨Id,oj,FO,G6⟩:=zAc.1 hj;have NW:=(yE.1 FO).1;have:=H.1 j NW;rw [getD_set_ne true (zAe D9),Id] at this;cases this
 | succ m ih=>
  intro AQ a w BP QZ hT hr hy hS H;have Lx:=(zAc.1 hr).1;refine ⟨fun h=>(by rw [h] at hr;cases hr),fun j hj=>?_⟩
  by_cases D9:j=i
  ·subst D9;exact Rj hF (Hc Aw hi) hi hy hS ⟨fa w,H⟩
  ·have h1:=H.2 j (ready_mono hj D9);obtain ⟨Id,oj,FO,G6⟩:=zAc.1 hj;have NW:=(yE.1 FO).1
   have tQ:Fa ops ops.size j i=false:=by
    cases hx:Fa ops ops.size j i with
    | false=>rfl
    | true=>
     have:=VV BP _ j i oj FO G6 hx;rw [UP Lx] at this;cases this
   have X1: ∀ e∈oj.after,Region.binds .any e=true -> e.on≠i:=fun e he hb NY=>by
    have h1:=G6 e he hb;rw [NY,UP Lx] at h1;cases h1
   have h2:=Zj hF (Hc Aw FO) FO (QZ j oj FO D9 Id X1) (fun cs b=>QK i oi cs b hi) (fun cs b=>QK j oj cs b FO) (fun c a w h=>NP.put c a _ _ w h) hy h1
   have un: ∀ {k:Nat},(AQ.setIfInBounds j true).getD k true=false -> AQ.getD k true=false:=fun {k} Hi=>by
    by_cases QV:j=k
    ·subst QV;exact Id
    ·rw [getD_set_ne true QV] at Hi;exact Hi
   refine zAY (fun a' w' h3=>⟨h3.2.1,ih (AQ.setIfInBounds j true) a' w' (BP.set hj) (fun k ok hk QT Hi JJ=>QZ k ok hk QT (un Hi) JJ) (fun k D8 QT Hi tm=>hT k D8 QT (un Hi) tm) (ready_mono hr (zAe D9)) h3.1 (hT j NW D9 Id tQ w w' hS h3.2.1) ?_⟩) h2;rw [Array.setIfInBounds_comm _ _ D9];exact h3.2.2
theorem jJ {id:Nat} {a:Act} {w:World} {R:Nat -> World -> World -> Prop} (hm:P.follows .mixedOrders=true) (h:Gd F n P ops Q R ops.size (Array.replicate ops.size false) a w.drew):(Code.region id ops true).wpIn F n P Q a w:=
 wpIn_region_any hm (Zo _ _ _ _ h)
theorem wj:Fu ops (Array.replicate ops.size false):=fun j oj _ hl=>by
 exfalso
 rcases zd j ops.size with h | h
 ·simp [h] at hl
 ·simp [h] at hl
def PZ (ops:Array Oper) (i:Nat):Bool:=match ops[i]? with
 | some o=>PY o.op
 | none=>false
def RZ (ops:Array Oper) (early:Nat -> Bool) (Z:Nat -> Nat -> Prop) (j:Nat) (w w':World):Prop:=(PZ ops j=true -> w'=w)/\ (early j=true -> AM (Z j) w w')
def SZ (ops:Array Oper) (early:Nat -> Bool) (i:Nat) (AQ:Array Bool):Bool:=
 (Region.ready .any ops AQ).contains i&&Region.free .any ops AQ i&&PZ ops i&&
  ((List.range ops.size).all fun j=>AQ.getD j true||j==i||PZ ops j||early j||Fa ops ops.size j i)
theorem bz (hF: ∀ f,F.fn f) (Aw:Dq ops=true) (hs:Region.noSelect ops=true) {early:Nat -> Bool} {Z:Nat -> Nat -> Prop} {Zi:Nat -> Prop} {i m:Nat} {AQ:Array Bool} {a:Act} {w:World} {oi:Oper} {v:Value} (hi:ops[i]? =some oi) (BP:Fu ops AQ) (B4:SZ ops early i AQ=true) (hZ: ∀ j,Fa ops ops.size j i=false -> ∀ b,Z j b -> Zi b)
 (hy:YieldsIf P ops (AM Zi w) oi v a) (h:Gd F n P ops Q (RZ ops early Z) m (AQ.setIfInBounds i true) (a.put oi.dst v) w):Gd F n P ops Q (RZ ops early Z) (m+1) AQ a w:=by
 simp only [SZ,yG,yL,yP,ya,yk] at B4;obtain ⟨⟨⟨h1,h2⟩,h3⟩,h4⟩:=B4;refine jG hF Aw hi (Region.noSelect_spec hs) (fun w=>⟨fun _=>rfl,fun _=>AM.refl _ _⟩) m AQ a w BP (Region.free_spec hi h2) (fun j hj D9 Hi hw w1 w2 hT hR=>?_) (by simpa using h1) hy (AM.refl _ _) h;rcases h4 j hj with (((h | h) | h) | h) | h
 ·rw [Hi] at h;cases h
 ·exact absurd h D9
 ·rw [hR.1 h];exact hT
 ·exact hT.trans ((hR.2 h).mono fun b _ hb=>hZ j hw b hb)
 ·rw [hw] at h;cases h
theorem Yx {AQ:Array Bool} {i:Nat} (BP:Fu ops AQ) (h:(Region.ready .any ops AQ).contains i=true):Fu ops (AQ.setIfInBounds i true):=BP.set (by simpa using h)
end
end Go.Proofs.YtekkngkphejfcaaGreatDoor
namespace Go.Proofs.YtekkngkphejfcaaGreatDoor
abbrev zx:=@List.mem_filter
end Go.Proofs.YtekkngkphejfcaaGreatDoor
namespace Go.Proofs.YtekkngkphejfcaaGreatDoor
open Go.RowKit
inductive ST where
 | fin (π live:List Nat)
 | rd (i:Nat) (t:ST)
 | ef (i:Nat) (t GY:ST)
 | no
def Ra:ST -> List Nat
 | .ef i _ GY=>i::Ra GY
 | _=>[]
def DY (ops:Array Oper) (early:List Nat):Bool -> Nat -> ST -> Array Bool -> Bool
 | false,0,.fin _ _,L=>(List.range ops.size).all fun j=>L.getD j true
 | false,m+1,.rd i t,L=>SZ ops (fun j=>early.contains j) i L&&DY ops early false m t (L.setIfInBounds i true)
 | b,m+1,.ef i t GY,L=>(b||Region.ready .any ops L==Ra (.ef i .no GY))&&!PZ ops i&&DY ops early false m t (L.setIfInBounds i true)&&DY ops early true (m+1) GY L
 | true,_,.no,_=>true
 | _,_,_,_=>false
def Gf (p:Nat -> Bool) (h:DH):DH:=(List.range h.length).map fun i=>if p i then h.getD i none else none
def qF (xs:List Nat) (h:DH):DH:=Gf (fun i=>!xs.contains i) h
def VG (xs:List Nat) (h:DH):Bool:=xs.all fun k=>decide (h.length<=k)||(h.getD k none).isSome
def qL (h h':DH):Bool:=(List.range h.length).all fun k=>!(h.getD k none).isSome||(h'.getD k none).isSome
def Ky (S:St) (o:Oper):Option Nat:=match o.op with
 | .store _ x _=>match AY S.fr x with
  | .ref k _=>some k
  | .mp k _ _ _=>some k
  | _=>none
 | _=>none
def bA (σ:List Nat) (L n:Nat):Bool:=decide σ.Nodup&&σ.all (fun k=>decide (k<n))&&(List.range L).all fun k=>decide (σ[k]? =some k)
def OP (xs:List (Nat×Nat)) (nw:List Nat):List Nat:=xs.map (·.2)++nw
def IB (xs:List (Nat×Nat)) (nw:List Nat) (j:Nat):List Nat:=(xs.filter fun q=>q.1==j).map (·.2)++nw
def In (ops:Array Oper) (xs:List (Nat×Nat)) (nw:List Nat) (i:Nat):List Nat:=(xs.filter fun q=>!Fa ops ops.size q.1 i).map (·.2)++nw
def gm (early:List Nat) (xs:List (Nat×Nat)) (nw:List Nat) (S S1:St) (i:Nat) (o:Oper) (ext:Bool):Bool:=
 VG (OP xs nw) S.h&&VG (OP xs nw) S1.h&&((OP xs nw).all (fun k=>decide (k<S.h.length))||qL S.h S1.h)&&(!(early.contains i)||ext||(match Ky S o with | some k=>(IB xs nw i).contains k | none=>false))
def R6 (π:List Nat) (L0:Nat):List Nat:=List.range L0++π.map (· +L0)
def Jj (P:Program) (Γ:Au) (ops:Array Oper) (early:List Nat) (xs:List (Nat×Nat)) (nw:List Nat) (L0:Nat) (S':St):ST -> St -> Bt -> Option (List Prop×Bt)
 | .no,_,An=>some ([],An)
 | .fin π live,S,An=>if bA (R6 π L0) L0 S.h.length then some ([FA (R6 π L0) ⟨forget live S.fr,S.h⟩=S'],An) else none
 | .rd i t,S,An=>match ops[i]? with
  | none=>none
  | some o=>if VG (In ops xs nw i) S.h then match PN P ops ⟨S.fr,qF (In ops xs nw i) S.h⟩ An.co o with
   | none=>none
   | some (S1,vs,DU)=>match Jj P Γ ops early xs nw L0 S' t ⟨S1.fr,S.h⟩ ⟨An.calls,DU,An.fz,An.tg⟩ with
    | none=>none
    | some (Bm,CP)=>some (vs++Bm,CP)
   else none
 | .ef i t GY,S,An=>match ops[i]? with
  | none=>none
  | some o=>match MJ P Γ ops S An o with
   | none=>none
   | some (S1,vs,ext,LQ)=>if gm early xs nw S S1 i o ext then
    match Jj P Γ ops early xs nw L0 S' t S1 LQ with
    | none=>none
    | some (Cs,Gn)=>match Jj P Γ ops early xs nw L0 S' GY S Gn with
     | none=>none
     | some (FD,M1)=>some (vs++(Cs++FD),M1)
    else none
def CA (ops:Array Oper) (early:List Nat) (t:ST):Prop:=(DY ops early false ops.size t (Array.replicate ops.size false)&&Region.noSelect ops&&Dq ops)=true
def Ve (P:Program) (Γ:Au) (ops:Array Oper) (early:List Nat) (t:ST) (S:St) (An:Bt):Option (St×List Prop×Bt):=match An.tg with
 | []=>none
 | (ks,S')::rest=>match Jj P Γ ops early ks (List.range' S.h.length ops.size) S.h.length S' t S ⟨An.calls,An.co,An.fz,rest⟩ with
  | none=>none
  | some (vs,CP)=>some (S',vs,CP)
theorem Ng {p:Nat -> Bool} {h:DH} {i:Nat} {o:DO} (hi:(Gf p h)[i]? =some (some o)):h[i]? =some (some o)/\ p i=true:=by
 unfold Gf at hi;rw [yS] at hi;cases hr:(List.range h.length)[i]? with
 | none=>rw [hr] at hi;cases hi
 | some j=>
  have hj:i<h.length/\ i=j:=by
   have:=yJ.1 hr;obtain ⟨h1,h2⟩:=this;simp at h1 h2;exact ⟨h1,h2⟩
  rw [hr] at hi;obtain ⟨h1,rfl⟩:=hj;have hi:(if p i then h.getD i none else none)=some o:=yK hi;split at hi
  ·exact ⟨by rw [u8,xz h1] at hi;rw [xz h1];exact congrArg some hi,by assumption⟩
  ·cases hi
theorem kT {p:Nat -> Bool} {h:DH}:(Gf p h).length=h.length:=by simp [Gf]
theorem fw {p:Nat -> Bool} {h:DH} {k:Nat} (hp:p k=true) (hk:k<h.length):(Gf p h)[k]? =h[k]? :=by
 unfold Gf;rw [yS,zy hk];simp [hp,u8,hk]
section
variable {P:Program} {Γ:Au} {N:Nat -> Prop} {S:St} {ρ:List AI} {a:Act} {w:World}
theorem AX.sel (R:AX P Γ N S ρ a w) (p:Nat -> Bool):AX P Γ (fun b=>N b∨∃ k o q,p k=false/\ S.h[k]? =some (some o)/\ ρ[k]? =some q/\ q.foot b) ⟨S.fr,Gf p S.h⟩ ρ a w:=by
 have hM: ∀ b,MS (fun b=>N b∨∃ k o q,p k=false/\ S.h[k]? =some (some o)/\ ρ[k]? =some q/\ q.foot b) (Gf p S.h) ρ b -> MS N S.h ρ b:=by
  rintro b ((h | ⟨k,o,q,h1,h2,h3,h4⟩) | ⟨k,o,q,h1,h2,h3⟩)
  ·exact .inl h
  ·exact .inr ⟨k,o,q,h2,h3,h4⟩
  ·exact .inr ⟨k,o,q,(Ng h1).1,h2,h3⟩
 refine ⟨⟨by rw [kT];exact R.hr.len,fun i o hi=>?_,fun i o q b g1 g2 g3=>?_,fun i i' o1 o2 p1 p2 b AV g1 g2 g3 g4 g5 g6=>R.hr.dis i i' o1 o2 p1 p2 b AV (Ng g1).1 (Ng g2).1 g3 g4 g5 g6,?_,R.hr.gi⟩,R.fr.out (C0 hM ρ)⟩
 ·obtain ⟨q,hq,hr⟩:=R.hr.obj i o (Ng hi).1;exact ⟨q,hq,hr.out (C0 hM ρ) (S:=fun _=>False) (AM.refl _ _) (fun _ h=>h.elim) fun _ _ _ h=>h⟩
 ·obtain ⟨hi,sA⟩:=Ng g1;obtain ⟨c1,c2,c3⟩:=R.hr.cel i o q b hi g2 g3;refine ⟨c1,?_,c3⟩;rintro (h | ⟨k,o',q',h1,h2,h3,h4⟩)
  ·exact c2 h
  ·exact R.hr.dis i k o o' q q' b (fun e=>by subst e;rw [sA] at h1;cases h1) hi h2 g2 h3 g3 h4
 ·rintro b (h | ⟨k,o',q',h1,h2,h3,h4⟩)
  ·exact R.hr.nlt b h
  ·obtain ⟨c1,_,c,t,z,c3⟩:=R.hr.cel k o' q' b h2 h3 h4;exact ⟨(yE.1 c3).1,c1⟩
theorem AX.unsel {p:Nat -> Bool} {fr:List DV} (R0:BK P Γ N S.h ρ w) (R:B1 (MS (fun b=>N b∨∃ k o q,p k=false/\ S.h[k]? =some (some o)/\ ρ[k]? =some q/\ q.foot b) (Gf p S.h) ρ) w ρ fr a.tmps):AX P Γ N ⟨fr,S.h⟩ ρ a w:=by
 refine ⟨R0,R.out (C0 (fun b hb=>?_) ρ)⟩;rcases hb with h | ⟨k,o,q,h1,h2,h3⟩
 ·exact .inl (.inl h)
 ·cases hp:p k with
  | false=>exact .inl (.inr ⟨k,o,q,hp,h1,h2,h3⟩)
  | true=>
   refine .inr ⟨k,o,q,?_,h2,h3⟩;rw [fw hp (yJ.1 h1).1];exact h1
def Zs (xs:List Nat) (ρ:List AI) (w:World) (b:Nat):Prop:=(∃ k q,k∈xs/\ ρ[k]? =some q/\ q.foot b)∨w.heap.size<=b
theorem qM {xs:List Nat} (R:BK P Γ N S.h ρ w) (L4:VG xs S.h=true) {W:World} (hu:AM (Zs xs ρ w) w W):Keep (fun b=>N b∨∃ k o q,(!xs.contains k)=false/\ S.h[k]? =some (some o)/\ ρ[k]? =some q/\ q.foot b) w W:=by
 intro b o u hb hc;have AK:b<w.heap.size:=zf w ⟨b,o,none⟩ hc;refine (iH (hu.block b AK ?_)).trans hc;rintro (⟨k,q,h1,h2,h3⟩ | h)
 ·have hk:k<S.h.length:=by rw [←R.len];exact (yJ.1 h2).1
  have hx:=yL.1 L4 k h1;simp only [ya,yg] at hx;rcases hx with hx | hx
  ·omega
  ·cases hg:S.h.getD k none with
   | none=>rw [hg] at hx;cases hx
   | some ob=>exact hb (.inr ⟨k,ob,q,by simp [h1],getD_some hg,h2,h3⟩)
 ·omega
theorem Np {ρ':Operand -> Value} {o:Oper} {t:TypeId} {x y:Operand} (ho:o.op= .store t x y) {nx:Next} {w w':World} (h:(execOp ρ' o).run P w= .ok nx w'):nx= .skip:=by
 unfold execOp at h;rw [ho] at h;have h:(Instr.storeAt t (ρ' x) (ρ' y)>>=fun _=>(pure .skip:Sem Next)).run P w= .ok nx w':=h;rw [yU] at h;cases hs:(Instr.storeAt t (ρ' x) (ρ' y)).run P w with
 | ok v w1=>rw [hs] at h;simp only [Result.andThen] at h;cases h;rfl
 | halt x w1=>rw [hs] at h;simp only [Result.andThen] at h;cases h
theorem BN.store {ρ':Operand -> Value} {o:Oper} {t:TypeId} {x y:Operand} (ho:o.op= .store t x y) {w:World} {G G':Value -> World -> Prop} (h:BN P (execOp ρ' o) w G) (h':BN P (execOp ρ' o) w G'):BN P (execOp ρ' o) w (fun v W=>G v W/\ G' v W):=by
 rcases h with ⟨v,w1,h1,_⟩ | ⟨w1,h1,h2⟩ | ⟨f,ag,w1,h1,_⟩
 ·cases Np ho h1
 ·rcases h' with ⟨v,w2,g1,_⟩ | ⟨w2,g1,g2⟩ | ⟨f,ag,w2,g1,_⟩
  ·cases Np ho g1
  ·rw [h1] at g1;cases g1;exact .inr (.inl ⟨w1,h1,h2,g2⟩)
  ·cases Np ho g1
 ·cases Np ho h1
theorem kH {t:TypeId} {x d:DV} {k:Nat} {h':DH} {vc:Prop} (hx:(∃ j,x= .ref k j)∨∃ m i j,x= .mp k m i j) (h:Kz P S t x d=some (h',vc)):k<S.h.length/\ ∃ h2,Kz P ⟨S.fr,Gf (fun i=>i==k) S.h⟩ t x d=some (h2,vc):=by
 have key: ∀ {o:DO},S.h[k]? =some (some o) -> k<S.h.length/\ (Gf (fun i=>i==k) S.h)[k]? =some (some o):=fun {o} ho=>by
  have hk:=(yJ.1 ho).1;exact ⟨hk,by rw [fw (by simp) hk];exact ho⟩
 unfold Kz at h ⊢;rcases hx with ⟨j,rfl⟩ | ⟨m,i,j,rfl⟩
 ·simp only at h ⊢;split at h
  ·rename_i l hl;obtain ⟨h1,h2⟩:=key hl;refine ⟨h1,?_⟩;simp only [h2]
   repeat' (split at h)
   all_goals first | (cases h;done) | skip
   cases h;rename_i q1 q2 q3;simp only [q1,q2,q3,zE];exact ⟨_,rfl⟩
  ·cases h
 ·simp only at h ⊢;split at h
  ·rename_i A2;split at h
   ·rename_i l hl;obtain ⟨h1,h2⟩:=key hl;refine ⟨h1,?_⟩;simp only [h2,A2,zE]
    repeat' (split at h)
    all_goals first | (cases h;done) | skip
    cases h;rename_i q1;simp only [q1,zE];exact ⟨_,rfl⟩
   ·rename_i l hl;obtain ⟨h1,h2⟩:=key hl;refine ⟨h1,?_⟩;simp only [h2,A2,zE]
    repeat' (split at h)
    all_goals first | (cases h;done) | skip
    cases h;rename_i q1;simp only [q1,zE];exact ⟨_,rfl⟩
   ·rename_i m' n f hl;obtain ⟨h1,h2⟩:=key hl;refine ⟨h1,?_⟩;simp only [h2,A2,zE]
    repeat' (split at h)
    all_goals first | (cases h;done) | skip
    cases h;rename_i q1;simp only [q1,zE];exact ⟨_,rfl⟩
   ·cases h
  ·cases h
theorem al {o:Oper} {k:Nat} (h:Ky S o=some k): ∃ t x y,o.op= .store t x y/\ ((∃ j,AY S.fr x= .ref k j)∨∃ m i j,AY S.fr x= .mp k m i j):=by
 unfold Ky at h;split at h
 ·rename_i t x y ho;refine ⟨t,x,y,ho,?_⟩;split at h
  ·rename_i j e;cases h;exact .inl ⟨j,e⟩
  ·rename_i m i j e;cases h;exact .inr ⟨m,i,j,e⟩
  ·cases h
 ·cases h
theorem xp {calls:List (DV×DH×Bool)} {o:Oper} {t:TypeId} {x y:Operand} (ho:o.op= .store t x y) {d:DV} {h':DH} {vs:List Prop} {ext:Bool} {RF:List (DV×DH×Bool)} (h:OI P Γ S calls o.op=some (d,h',vs,ext,RF)): ∃ vc,Kz P S t (AY S.fr x) (AY S.fr y)=some (h',vc)/\ vs= [vc]:=by
 rw [ho] at h;simp only [OI] at h;split at h
 ·rename_i h1 vc hs;cases h;exact ⟨vc,hs,rfl⟩
 ·cases h
theorem xq (R:AX P Γ N S ρ a w) {calls:List (DV×DH×Bool)} {o:Oper} {d:DV} {h':DH} {vs:List Prop} {ext:Bool} {RF:List (DV×DH×Bool)} (h:OI P Γ S calls o.op=some (d,h',vs,ext,RF)) (hv:Bc vs):
 BN P (execOp a.eval o) w (fun v w'=>C9 P Γ N S.h ρ w ext d h' v w'/\ ∀ k,Ky S o=some k -> AM (fun b=>∃ q,ρ[k]? =some q/\ q.foot b) w w'):=by
 cases E4:Ky S o with
 | none=>
  have D:=ZQ R h hv;rcases D with ⟨v,w1,h1,h2⟩ | ⟨w1,h1,h2⟩ | ⟨f,ag,w1,h1,h2⟩
  ·exact .inl ⟨v,w1,h1,h2,fun k hk=>by cases hk⟩
  ·exact .inr (.inl ⟨w1,h1,h2,fun k hk=>by cases hk⟩)
  ·exact .inr (.inr ⟨f,ag,w1,h1,h2.mono fun e CI ⟨v,e1,e2⟩=>⟨v,e1,e2,fun k hk=>by cases hk⟩⟩)
 | some k=>
  obtain ⟨t,x,y,ho,hx⟩:=al E4;have D:=ZQ R h hv;obtain ⟨vc,hs,rfl⟩:=xp ho h;obtain ⟨_,h2,KE⟩:=kH hx hs;have D2:=ao (AX.sel R (fun i=>i==k)) (tx:=x) (x:=y) KE hv.1 o ho;have D3:=BN.store ho D D2;rcases D3 with ⟨v,w1,h1,g1,g2⟩ | ⟨w1,h1,g1,g2⟩ | ⟨f,ag,w1,h1,_⟩
  ·cases Np ho h1
  ·refine .inr (.inl ⟨w1,h1,g1,fun k' DG=>?_⟩);cases DG;obtain ⟨ρ2,_,_,st,_⟩:=g2.ex;refine st.upd.mono fun b _ hb=>?_
   obtain ⟨i,o',q,q1,q2,q3⟩:=hb;have:=(Ng q1).2;have e:i=k:=by simpa using this
   subst e;exact ⟨q,q2,q3⟩
  ·cases Np ho h1
theorem xQ {F:Fence} (hF:Dj F P) (R:AX P Γ N S ρ a w) {ops:Array Oper} {An:Bt} {o:Oper} (hd: ∀ c,o.op≠.defer c) {S':St} {vs:List Prop} {ext:Bool} {CP:Bt} (h:MJ P Γ ops S An o=some (S',vs,ext,CP)) (hv:Bc vs)
 {K:Act -> World -> Prop} {Q:Exit -> Act -> World -> Prop} (hK: ∀ ρ' a' w',AX P Γ N S' ρ' a' w' -> EH S.h ρ w S'.h ρ' w' -> a'.defers=a.defers -> (ext=true -> Ar w w') -> (∀ k,Ky S o=some k -> AM (fun b=>∃ q,ρ[k]? =some q/\ q.foot b) w w') -> K a' w'):
 if Region.wanted o (yielded ops a.tmps) then o.wpIn F 0 P a w K Q else (∀ f,o.about P w a.eval=some f -> F.fn f)/\ K (a.put o.dst undef) w:=by
 have DR: ∀ v,(a.put o.dst v).defers=a.defers:=fun v=>by cases ho:o.dst <;> simp [Act.put]
 unfold MJ at h;split at h
 ·cases h
 ·rename_i hw;cases h;rw [yM (by rw [Jh R hw];exact zAQ)];exact ⟨fun f _=>hF.fn f,hK ρ _ _ (II R _ Ro) (EH.refl _ _ _) (DR _) (fun _=>Ar.refl w) fun _ _=>AM.refl _ _⟩
 ·rename_i hw;rw [yC (Jh R hw)];split at h
  ·rename_i S1 Cs hM;cases h;refine Nv hF hd (am R hM hv) fun v w' ⟨⟨ρ',g1,g2⟩,E4⟩=>hK ρ' _ _ g1 g2 (DR v) (fun e=>by cases e) fun k' DG=>?_
   obtain ⟨t0,x0,y0,Tv,_⟩:=al DG;rcases E4 with E4 | ⟨k,i,p,t,x,y,q1,q2,q3,q4⟩
   ·exact absurd Tv (E4 t0 x0 y0)
   have e:k'=k:=by
    unfold Ky at DG;rw [q1] at DG;simp only [q2] at DG;exact (yK DG).symm
   subst e;exact q4.mono fun b _ hb=>⟨p,q3,hb⟩
  split at h
  ·cases h
  ·rename_i d h1 Cs ext1 calls YR;split at h;rename_i d' Bm DU Qh;split at h
   ·cases h
   ·rename_i S2 VW Ye Ie;cases h;obtain ⟨Bb,Xb⟩:=Cx.1 hv;obtain ⟨CE,Lp⟩:=Cx.1 Xb;refine Nv hF hd (xq R YR Bb) fun v w' G=>?_
    obtain ⟨ρ',g1,g2⟩:=Qn R o.dst G.1 (d':=d') fun M ρ' hr=>Yw Qh CE hr
    obtain ⟨g3,g4⟩:=Yf _ Ie Lp P Γ N ρ' _ _ g1;exact hK ρ' _ _ g3 (g2.trans ⟨g4,fun _ _ h=>h⟩) (DR v) G.1.ext G.2
theorem jq {F:Fence} (hF:Dj F P) {ops:Array Oper} (Aw:Dq ops=true) (hs:Region.noSelect ops=true) {early:List Nat} {xs:List (Nat×Nat)} {nw:List Nat} {L0:Nat} {S':St} {Q:Exit -> Act -> World -> Prop}:
 ∀ (t:ST) (m:Nat) (L:Array Bool) {S:St} {ρ:List AI} {a:Act} {w:World} {vs:List Prop} {An CP:Bt},Fu ops L -> AX P Γ N S ρ a w -> Jj P Γ ops early xs nw L0 S' t S An=some (vs,CP) -> Bc vs ->
 (∀ ρ' a' w',AX P Γ N S' ρ' a' w' -> A8 S.h ρ w S'.h ρ' w' -> (∀ k p,k<L0 -> ρ[k]? =some p -> ρ'[k]? =some p) -> a'.defers=a.defers -> Q .normal a' w') ->
 (DY ops early false m t L=true -> Gd F 0 P ops Q (RZ ops (fun j=>early.contains j) (fun j=>Zs (IB xs nw j) ρ w)) m L a w)/\
 (DY ops early true m t L=true -> ∀ i∈Ra t,i∈Region.ready .any ops L -> ∃ m',m=m'+1/\ wpOpIn F 0 P ops (NP Q) i (fun a' w'=>RZ ops (fun j=>early.contains j) (fun j=>Zs (IB xs nw j) ρ w) i w w'/\ Gd F 0 P ops Q (RZ ops (fun j=>early.contains j) (fun j=>Zs (IB xs nw j) ρ w)) m' (L.setIfInBounds i true) a' w') a w):=by
 intro t
 induction t with
 | no=>
  intro m L S ρ a w vs An WW BP R hV hv hQ;exact ⟨fun h=>by cases m <;> simp [DY] at h,fun _ i hi=>by cases hi⟩
 | fin π live=>
  intro m L S ρ a w vs An WW BP R hV hv hQ;refine ⟨fun h=>?_,fun h=>by cases m <;> simp [DY] at h⟩;cases m with
  | succ m=>simp [DY] at h
  | zero=>
   simp only [DY,yL,yP] at h;refine ⟨h,?_⟩;simp only [Jj] at hV;split at hV
   ·rename_i hσ;cases hV;simp only [bA,yG,yg,yL,yP] at hσ;obtain ⟨ρ0,R0,kI,k0⟩:=BF.forget (L:=L0) live S.fr S.h P Γ N ρ a w R;obtain ⟨ρ',R',EL,k'⟩:=BF.compact (L:=L0) (R6 π L0) ⟨forget live S.fr,S.h⟩ hσ.1.1 (fun k hk=>hσ.1.2 k hk) (fun k hk=>hσ.2 k hk) P Γ N ρ0 a w R0;have st:=kI.trans EL;have e:FA (R6 π L0) ⟨forget live S.fr,S.h⟩=S':=hv.1;rw [e] at R' st EL;exact hQ ρ' a w R' st (fun k p hk hp=>k' k p hk (k0 k p hk hp)) rfl
   ·cases hV
 | rd i t ih=>
  intro m L S ρ a w vs An WW BP R hV hv hQ;refine ⟨fun h=>?_,fun h=>by cases m <;> simp [DY] at h⟩;cases m with
  | zero=>simp [DY] at h
  | succ m=>
   simp only [DY,yG] at h;simp only [Jj] at hV;split at hV
   ·cases hV
   ·rename_i o ho;split at hV
    ·rename_i L4;split at hV
     ·cases hV
     ·rename_i S1 Cs RE hp;split at hV
      ·cases hV
      ·rename_i FD Gn h2;cases hV;obtain ⟨Bb,CE⟩:=Cx.1 hv;have RK:=AX.sel R (fun k=>!(In ops xs nw i).contains k);obtain ⟨e1,E4⟩:=Sk RK hp Bb;have DR: ∀ v,(a.put o.dst v).defers=a.defers:=fun v=>by cases ho:o.dst <;> simp [Act.put]
       have NQ:(Region.ready .any ops L).contains i=true:=by
        have:=h.1;simp only [SZ,yG] at this;exact this.1.1.1
       have back: ∀ v,B1 (MS (fun b=>N b∨∃ k o q,(!(In ops xs nw i).contains k)=false/\ S.h[k]? =some (some o)/\ ρ[k]? =some q/\ q.foot b) S1.h ρ) w ρ S1.fr (a.put o.dst v).tmps -> AX P Γ N ⟨S1.fr,S.h⟩ ρ (a.put o.dst v) w:=fun v hr=>by
        rw [e1] at hr;exact AX.unsel (p:=fun k=>!(In ops xs nw i).contains k) R.hr hr
       have hZ: ∀ j,Fa ops ops.size j i=false -> ∀ b,Zs (IB xs nw j) ρ w b -> Zs (In ops xs nw i) ρ w b:=by
        rintro j hj b (⟨k,q,k1,k2,k3⟩ | hb)
        ·refine .inl ⟨k,q,?_,k2,k3⟩;unfold IB at k1;unfold In;rcases yb.1 k1 with k1 | k1
         ·obtain ⟨p,p1,p2⟩:=zK.1 k1;obtain ⟨p3,p4⟩:=zx.1 p1;have:p.1=j:=by simpa using p4
          exact yb.2 (.inl (zK.2 ⟨p,zx.2 ⟨p3,by rw [this,hj];rfl⟩,p2⟩))
         ·exact yb.2 (.inr k1)
        ·exact .inr hb
       rcases E4 with ⟨hw,v,g1,g2⟩ | ⟨hw,g2⟩
       ·refine bz (Zi:=Zs (In ops xs nw i) ρ w) hF.fn Aw hs ho BP h.1 hZ (.inl ⟨hw,fun W hu=>g1 W (qM R.hr L4 hu)⟩) ?_;exact (ih m _ (Yx BP NQ) (back v g2.fr) h2 CE fun ρ' a' w' q1 q2 q3 q4=>hQ ρ' a' w' q1 q2 q3 (q4.trans (DR v))).1 h.2
       ·refine bz (Zi:=Zs (In ops xs nw i) ρ w) hF.fn Aw hs (v:=undef) ho BP h.1 hZ (.inr ⟨hw,rfl⟩) ?_;exact (ih m _ (Yx BP NQ) (back undef g2.fr) h2 CE fun ρ' a' w' q1 q2 q3 q4=>hQ ρ' a' w' q1 q2 q3 (q4.trans (DR undef))).1 h.2
    ·cases hV
 | ef i t GY qs qr=>
  intro m L S ρ a w vs An WW BP R hV hv hQ;simp only [Jj] at hV;split at hV
  ·cases hV
  ·rename_i o ho;split at hV
   ·cases hV
   ·rename_i S1 Cs ext LQ h1;split at hV
    ·rename_i UF;simp only [gm,yG,ya] at UF;obtain ⟨⟨⟨L4,uc⟩,tn⟩,uG⟩:=UF;split at hV
     ·cases hV
     rename_i FD Gn h2;split at hV
     ·cases hV
     ·rename_i Rk M1 h3;cases hV;obtain ⟨Bb,Cd⟩:=Cx.1 hv;obtain ⟨CE,Lp⟩:=Cx.1 Cd;have A:=qr m L BP R h3 Lp hQ
      have sub: ∀ {j k:Nat},k∈IB xs nw j -> k∈OP xs nw:=fun {j k} hk=>by
       unfold IB at hk;unfold OP;rcases yb.1 hk with hk | hk
       ·obtain ⟨p,p1,p2⟩:=zK.1 hk;exact yb.2 (.inl (zK.2 ⟨p,(zx.1 p1).1,p2⟩))
       ·exact yb.2 (.inr hk)
      have one: ∀ b,DY ops early b m (.ef i t GY) L=true -> (Region.ready .any ops L).contains i=true -> ∃ m',m=m'+1/\ DY ops early true m GY L=true/\ wpOpIn F 0 P ops (NP Q) i (fun a' w'=>RZ ops (fun j=>early.contains j) (fun j=>Zs (IB xs nw j) ρ w) i w w'/\ Gd F 0 P ops Q (RZ ops (fun j=>early.contains j) (fun j=>Zs (IB xs nw j) ρ w)) m' (L.setIfInBounds i true) a' w') a w:=by
       intro b hb hr;cases m with
       | zero=>cases b <;> simp [DY] at hb
       | succ m=>
        have ER:(!PZ ops i)=true/\ DY ops early false m t (L.setIfInBounds i true)=true/\ DY ops early true (m+1) GY L=true:=by
         cases b <;> simp only [DY,yG] at hb <;> exact ⟨hb.1.1.2,hb.1.2,hb.2⟩
        obtain ⟨b1,b2,b3⟩:=ER;refine ⟨m,rfl,b3,?_⟩;unfold wpOpIn;simp only [ho];refine xQ hF R (Hc Aw ho) h1 Bb fun ρ' a' w' R' st Dw If rU=>?_
        refine ⟨⟨fun hp=>(by rw [hp] at b1;cases b1),fun he=>?_⟩,?_⟩
        ·rcases uG with (h | h) | h
         ·have he:early.contains i=true:=he;rw [he] at h;cases h
         ·exact AM.ofExt (If h)
         ·split at h
          ·rename_i k hk;refine (rU k hk).mono fun b _ hb=>?_
           obtain ⟨q,q1,q2⟩:=hb;exact .inl ⟨k,q,by simpa using h,q1,q2⟩
          ·cases h
        ·have T:=(qs m _ (Yx BP hr) R' h2 CE fun ρ2 a2 w2 q1 q2 q3 q4=>hQ ρ2 a2 w2 q1 (st.st.trans q2) (fun k p hk hp=>q3 k p hk (st.pl k p hp)) (q4.trans Dw)).1 b2;refine Zh (fun j w1 w2 hR=>⟨hR.1,fun he=>(hR.2 he).mono fun b fV hb=>?_⟩) _ _ _ _ T;rcases hb with ⟨k,q,k1,k2,k3⟩ | hb
         ·by_cases hk:k<ρ.length
          ·have e:=st.pl k _ (xz hk);rw [e] at k2;exact .inl ⟨k,q,k1,by rw [xz hk];exact k2,k3⟩
          ·refine .inr ?_;rw [R.hr.len] at hk;rcases tn with hx | hx
           ·have:=yL.1 hx k (sub k1);simp only [yg] at this;omega
           ·have DG:k<S1.h.length:=by rw [←R'.hr.len];exact (yJ.1 k2).1
            have ha:=yL.1 uc k (sub k1);simp only [ya,yg] at ha;rcases ha with ha | ha
            ·omega
            ·cases hg:S1.h.getD k none with
             | none=>rw [hg] at ha;cases ha
             | some ob=>
              rcases st.st.grow b ⟨k,ob,q,getD_some hg,k2,k3⟩ with ⟨i2,o2,p2,g1,g2,g3⟩ | h
              ·exfalso
               have tw:=(yJ.1 g1).1;have Tp:=yL.1 hx i2 (yP.2 tw);have e2:S.h.getD i2 none=some o2:=by rw [u8,g1];rfl
               rw [e2] at Tp;cases fL:S1.h.getD i2 none with
               | none=>rw [fL] at Tp;cases Tp
               | some ou=>exact R'.hr.dis i2 k ou ob p2 q b (by omega) (getD_some fL) (getD_some hg) (st.pl i2 p2 g2) k2 g3 k3
              ·exact h
         ·exact .inr (yO st.st.upd.size hb)
      refine ⟨fun h=>?_,fun h j hj hr=>?_⟩
      ·have NQ:Region.ready .any ops L=i::Ra GY:=by
        cases m <;> simp only [DY,yG,ya,yk,Ra,yt,false_or] at h;exact h.1.1.1
       obtain ⟨m',e,ha,hw⟩:=one false h (by rw [NQ];simp);subst e;refine ⟨by rw [NQ];simp,fun j hj=>?_⟩;have F8:=hj;rw [NQ] at hj;rcases yd.1 hj with rfl | hj
       ·exact hw
       ·obtain ⟨m2,e2,QF⟩:=A.2 ha j hj F8;cases e2;exact QF
      ·rcases yd.1 hj with rfl | hj
       ·obtain ⟨m',e,ha,hw⟩:=one true h (by simpa using hr);exact ⟨m',e,hw⟩
       ·have ha:DY ops early true m GY L=true:=by
         cases m <;> simp only [DY,yG] at h
         ·cases h
         ·exact h.2
        exact A.2 ha j hj hr
    ·cases hV
theorem Tr.tree {F:Fence} {B:Option Nat} {L:Nat} {Y:BS P Γ L} {Q:QY P Γ L} (hF:Dj F P) {id:Nat} {ops:Array Oper} {early:List Nat} {t:ST} {An CP:Bt} {S':St} {vs:List Prop} (hm:P.follows .mixedOrders=true) (hB:CA ops early t)
 (h:Ve P Γ ops early t S An=some (S',vs,CP)) (hv:Bc vs) (hk:Q .normal S' Y):Tr P Γ F B L Y (.region id ops true) S Q:=fun N ρ a w R y m b=>by
 simp only [CA,yG] at hB;obtain ⟨⟨h1,h2⟩,h3⟩:=hB;unfold Ve at h;split at h
 ·cases h
 split at h
 ·cases h
 ·rename_i hV;cases h;have hE:Ar w w.drew:=Ar.toDrew w;refine jJ hm ((jq hF h3 h2 t ops.size _ wj (R.ext hE) hV hv fun ρ' a' w' R' st X6 Dw=>?_).1 h1);have EL:A8 S.h ρ w S'.h ρ' w':=(A8.ext hE).trans st;exact Tr.done R y m b hk R' EL (fun k p _ hp=>X6 k p (by rw [←R.hr.len];exact (yJ.1 hp).1) hp) Dw
end
end Go.Proofs.YtekkngkphejfcaaGreatDoor
namespace Go.Proofs.YtekkngkphejfcaaGreatDoor
abbrev zA1:=@Go.IntKind.wrap_i64
end Go.Proofs.YtekkngkphejfcaaGreatDoor
namespace Go.Proofs.YtekkngkphejfcaaGreatDoor
open Go.RowKit
inductive KI where
 | code (c:Code)
 | blk (id:Nat)
 | scp
 | lend (J:St -> Prop)
 | loopN (m:Nat) (b:Code)
def Im (P:Program) (Γ:Au) (F:Fence) (B:Option Nat) (L:Nat) (b:Code) (Q:QY P Γ L):Nat -> St -> BS P Γ L -> Prop
 | 0,_,_=>False
 | m+1,S,Y=>Tr P Γ F B L Y b S (Oa (Im P Γ F B L b Q m) Q)
theorem Im.loop {P:Program} {Γ:Au} {F:Fence} {B:Option Nat} {L:Nat} {Y:BS P Γ L} {b:Code} {Q:QY P Γ L} {m:Nat} {S:St} (h:Im P Γ F B L b Q m S Y):Tr P Γ F B L Y (.loop b) S Q:=by
 refine Tr.loop (fun m S Y=>Im P Γ F B L b Q m S Y) m h fun m S Y hm=>?_
 cases m with
 | zero=>exact hm.elim
 | succ m=>
  refine Tr.mono hm fun e S' Y' hq=>?_
  cases e with
  | normal=>exact ⟨m,Nat.lt_succ_self m,hq⟩
  | _=>exact hq
def DJ (P:Program) (Γ:Au) (F:Fence) (B:Option Nat) (L:Nat) (Q:QY P Γ L):List KI -> QY P Γ L
 | [],e,S,Y=>Q e S Y
 | .code c::k,e,S,Y=>match e with
  | .normal=>Tr P Γ F B L Y c S (DJ P Γ F B L Q k)
  | e=>DJ P Γ F B L Q k e S Y
 | .blk id::k,e,S,Y=>match e with
  | .exit i=>if i=id then DJ P Γ F B L Q k .normal S Y else DJ P Γ F B L Q k (.exit i) S Y
  | e=>DJ P Γ F B L Q k e S Y
 | .scp::k,e,S,Y=>match e with
  | .goto _=>False
  | e=>DJ P Γ F B L Q k e S Y
 | .lend J::k,e,S,Y=>match e with
  | .normal=>J S
  | e=>DJ P Γ F B L Q k e S Y
 | .loopN m b::k,e,S,Y=>match e with
  | .normal=>Im P Γ F B L b (DJ P Γ F B L Q k) m S Y
  | e=>DJ P Γ F B L Q k e S Y
def Aq (P:Program) (Γ:Au) (F:Fence) (B:Option Nat) (L:Nat) (Y:BS P Γ L) (Q:QY P Γ L) (k:List KI) (S:St):Prop:=DJ P Γ F B L Q k .normal S Y
def stay {P:Program} {Γ:Au} {L:Nat} (N:BS P Γ L) (Q:Exit -> St -> Prop):QY P Γ L:=fun e S Y=>Y=N/\ Q e S
abbrev BJ (P:Program) (Γ:Au) (F:Fence) (B:Option Nat) (L:Nat) (N:BS P Γ L) (Q:Exit -> St -> Prop) (k:List KI) (S:St):Prop:=Aq P Γ F B L N (stay N Q) k S
def HZ (id:Nat):List KI -> Option (List KI)
 | []=>none
 | .blk i::k=>if id=i then some k else HZ id k
 | _::k=>HZ id k
inductive ZT where
 | no
 | ord (st:List (List Nat×Nat)) (la ta:List Nat)
 | stop
 | tre (early:List Nat) (t:ST)
abbrev BU:=Nat -> ZT
def ZT.isStop:ZT -> Bool
 | .stop=>true
 | _=>false
def BQ (i:Nat) (s:BU):BU:=fun j=>if j=i then .stop else s j
def Aj (ops:Array Oper) (D4:List (List Nat×Nat)) (Ba tail:List Nat):Prop:=(Vv ops D4 Ba tail&&Dq ops&&tail.all fun t=>decide (t<ops.size))=true
inductive KO where
 | at (k:List KI)
 | ret
def Bo (P:Program) (Γ:Au) (Am:BU):Nat -> List KI -> St -> Bt -> Option (KO×St×List Prop×Bt)
 | 0,_,_,_=>none
 | n+1,k,S,o=>match k with
  | []=>some (.at [],S,[],o)
  | .blk _::k=>Bo P Γ Am n k S o
  | .scp::k=>Bo P Γ Am n k S o
  | .lend J::k=>some (.at (.lend J::k),S,[],o)
  | .loopN m b::k=>some (.at (.loopN m b::k),S,[],o)
  | .code c::k=>match c with
   | .skip=>Bo P Γ Am n k S o
   | .seq a b=>Bo P Γ Am n (.code a:: .code b::k) S o
   | .block id b=>Bo P Γ Am n (.code b:: .blk id::k) S o
   | .scope b=>Bo P Γ Am n (.code b:: .scp::k) S o
   | .label _=>Bo P Γ Am n k S o
   | .exit id=>match HZ id k with
    | some k'=>Bo P Γ Am n k' S o
    | none=>some (.at (.code (.exit id)::k),S,[],o)
   | .ret=>some (.ret,S,[],o)
   | .cond x a b=>match AY S.fr x with
    | .bool true=>Bo P Γ Am n (.code a::k) S o
    | .bool false=>Bo P Γ Am n (.code b::k) S o
    | _=>none
   | .region id ops dr=>if (Am id).isStop then some (.at (.code (.region id ops dr)::k),S,[],o) else match dr with
    | false=>if Dq ops then match ET P Γ ops ops.toList S o with
     | none=>none
     | some (S',vs,o')=>match Bo P Γ Am n k S' o' with
      | none=>none
      | some (r,CX,Bm,Pj)=>some (r,CX,vs++Bm,Pj)
     else none
    | true=>match Am id with
     | .no=>none
     | .stop=>none
     | .tre early t=>match Ve P Γ ops early t S o with
      | none=>none
      | some (S',vs,o')=>match Bo P Γ Am n k S' o' with
       | none=>none
       | some (r,CX,Bm,Pj)=>some (r,CX,CA ops early t::(vs++Bm),Pj)
     | .ord st la ta=>match hseq P Γ ops st la ta S o with
      | none=>none
      | some (S',vs,o')=>match Bo P Γ Am n k S' o' with
       | none=>none
       | some (r,CX,Bm,Pj)=>some (r,CX,Aj ops st la ta::(vs++Bm),Pj)
   | c=>some (.at (.code c::k),S,[],o)
section
variable {P:Program} {Γ:Au} {F:Fence} {B:Option Nat} {L:Nat} {Y:BS P Γ L} {Q:QY P Γ L}
theorem u0 (hF:Dj F P) {S:St} {id:Nat} {ops:Array Oper} {An CP:Bt} {S':St} {vs:List Prop} {Q:QY P Γ L} (Aw:Dq ops=true) (h:ET P Γ ops ops.toList S An=some (S',vs,CP)) (hv:Bc vs) (hk:Q .normal S' Y):Tr P Γ F B L Y (.region id ops false) S Q:=fun N ρ a w R y m b=>
 wpIn_region_list (KT hF Aw _ (fun o ho=>by simpa using ho) R h hv fun ρ' a' w' R' st Dw=>Tr.done R y m b hk R' st.st (fun k p _ hp=>st.pl k p hp) Dw)
theorem rb (hF:Dj F P) {S:St} {id:Nat} {ops:Array Oper} {D4:List (List Nat×Nat)} {Ba tail:List Nat} {An CP:Bt} {S':St} {vs:List Prop} {Q:QY P Γ L} (hm:P.follows .mixedOrders=true) (hB:Aj ops D4 Ba tail)
 (h:hseq P Γ ops D4 Ba tail S An=some (S',vs,CP)) (hv:Bc vs) (hk:Q .normal S' Y):Tr P Γ F B L Y (.region id ops true) S Q:=fun N ρ a w R y m b=>by
 simp only [Aj,yG] at hB;obtain ⟨⟨h1,h2⟩,h3⟩:=hB;have hE:Ar w w.drew:=Ar.toDrew w;refine jI hF.fn D4 Ba tail hm (by simp only [yG];exact ⟨h1,h2⟩) (eK hF h2 D4 Ba tail h3 (R.ext hE) h hv fun ρ' a' w' R' st Dw=>?_);have EL:A8 S.h ρ w S'.h ρ' w':=(A8.ext hE).trans st.st;exact Tr.done R y m b hk R' EL (fun k p _ hp=>st.pl k p hp) Dw
theorem LL {id:Nat} {S:St}: ∀ {k k':List KI},HZ id k=some k' -> DJ P Γ F B L Q k' .normal S Y -> DJ P Γ F B L Q k (.exit id) S Y
 | [],_,h,_=>by cases h
 | .blk i::k,k',h,hq=>by
  unfold HZ at h;split at h
  ·rename_i e;cases h;subst e
   show (if id=id then _ else _)
   rw [yC rfl];exact hq
  ·rename_i e
   show (if id=i then _ else _)
   rw [yM e];exact LL h hq
 | .code c::k,k',h,hq=>LL (k:=k) h hq
 | .lend J::k,k',h,hq=>LL (k:=k) h hq
 | .scp::k,k',h,hq=>LL (k:=k) h hq
 | .loopN m b::k,k',h,hq=>LL (k:=k) h hq
theorem Mq {S:St} (h:Q .ret S Y): ∀ (k:List KI),DJ P Γ F B L Q k .ret S Y
 | []=>h
 | .blk _::k=>Mq h k
 | .code _::k=>Mq h k
 | .lend _::k=>Mq h k
 | .scp::k=>Mq h k
 | .loopN _ _::k=>Mq h k
def xv (P:Program) (Γ:Au) (F:Fence) (B:Option Nat) (L:Nat) (Y:BS P Γ L) (Q:QY P Γ L):KO -> St -> Prop
 | .at k,S=>Aq P Γ F B L Y Q k S
 | .ret,S=>Q .ret S Y
theorem Em (hF:Dj F P) (hm:P.follows .mixedOrders=true) {Am:BU}: ∀ (n:Nat) (k:List KI) (S:St) (o:Bt) (r:KO) (S':St) (vs:List Prop) (o':Bt),Bo P Γ Am n k S o=some (r,S',vs,o') -> Bc vs -> xv P Γ F B L Y Q r S' -> Aq P Γ F B L Y Q k S
 | 0,_,_,_,_,_,_,_,h,_,_=>by cases h
 | n+1,k,S,o,r,S',vs,o',h,hv,hk=>by
  unfold Bo at h;cases k with
  | nil=>cases h;exact hk
  | cons i k=>
   cases i with
   | blk id=>exact Em hF hm n k S o r S' vs o' h hv hk
   | scp=>exact Em hF hm n k S o r S' vs o' h hv hk
   | lend J=>cases h;exact hk
   | loopN m b=>cases h;exact hk
   | code c=>
    show Tr P Γ F B L Y c S (DJ P Γ F B L Q k)
    cases c with
    | skip=>exact Tr.skip (Em hF hm n k S o r S' vs o' h hv hk)
    | seq a b=>
     refine Tr.seq (Tr.mono (Em hF hm n (.code a:: .code b::k) S o r S' vs o' h hv hk) fun e S2 Y2 hq=>?_);cases e <;> exact hq
    | block id b=>
     refine Tr.block (Tr.mono (Em hF hm n (.code b:: .blk id::k) S o r S' vs o' h hv hk) fun e S2 Y2 hq=>?_);cases e <;> exact hq
    | exit id=>
     simp only at h;split at h
     ·rename_i k' hp;exact Tr.exit (LL hp (Em hF hm n k' S o r S' vs o' h hv hk))
     ·cases h;exact hk
    | ret=>cases h;exact Tr.ret (Mq hk k)
    | cond x a b=>
     simp only at h;split at h
     ·rename_i hc;exact Tr.cond hc (fun _=>Em hF hm n (.code a::k) S o r S' vs o' h hv hk) (fun e=>by cases e)
     ·rename_i hc;exact Tr.cond hc (fun e=>by cases e) (fun _=>Em hF hm n (.code b::k) S o r S' vs o' h hv hk)
     ·cases h
    | region id ops dr=>
     simp only at h;split at h
     ·cases h;exact hk
     ·cases dr with
      | false=>
       simp only at h;split at h
       ·rename_i Aw;split at h
        ·cases h
        ·rename_i S1 Cs o1 h1;split at h
         ·cases h
         ·rename_i r2 S2 FD o2 h2;cases h;obtain ⟨Bb,CE⟩:=Cx.1 hv;exact u0 hF Aw h1 Bb (Em hF hm n k S1 o1 _ _ _ _ h2 CE hk)
       ·cases h
      | true=>
       simp only at h;split at h
       ·cases h
       ·cases h
       ·rename_i early t hs;split at h
        ·cases h
        ·rename_i S1 Cs o1 h1;split at h
         ·cases h
         ·rename_i r2 S2 FD o2 h2;cases h;obtain ⟨Ia,Cd⟩:=hv;obtain ⟨Bb,CE⟩:=Cx.1 Cd;exact Tr.tree hF hm Ia h1 Bb (Em hF hm n k S1 o1 _ _ _ _ h2 CE hk)
       ·rename_i st la ta hs;split at h
        ·cases h
        ·rename_i S1 Cs o1 h1;split at h
         ·cases h
         ·rename_i r2 S2 FD o2 h2;cases h;obtain ⟨Ia,Cd⟩:=hv;obtain ⟨Bb,CE⟩:=Cx.1 Cd;exact rb hF hm Ia h1 Bb (Em hF hm n k S1 o1 _ _ _ _ h2 CE hk)
    | loop b=>cases h;exact hk
    | rangeFunc f ps ig bd=>cases h;exact hk
    | scope b=>
     refine Tr.scope (Tr.mono (Em hF hm n (.code b:: .scp::k) S o r S' vs o' h hv hk) fun e S2 Y2 hq=>?_);cases e <;> exact hq
    | label l=>exact Tr.label (Em hF hm n k S o r S' vs o' h hv hk)
    | goto l=>cases h;exact hk
    | refuse w=>cases h;exact hk
theorem Aq.weaken {k:List KI} {S S':St} (hS:BF L S S') (h:Aq P Γ F B L Y Q k S') (hk: ∃ c k',k= .code c::k'):Aq P Γ F B L Y Q k S:=by
 obtain ⟨c,k',rfl⟩:=hk;exact Tr.weaken hS h
def Li:List KI -> Bool
 | .code (.loop _)::_=>true
 | _=>false
def Dk (k:List KI):List KI:=match k with
 | _::rest=>rest
 | []=>[]
def KZ (id:Nat):List Nat -> Code -> List KI -> Option (List KI)
 | ms,.seq a b,k=>match KZ id ms a (.code b::k) with
  | some r=>some r
  | none=>KZ id ms b k
 | ms,.cond _ a b,k=>match KZ id ms a k with
  | some r=>some r
  | none=>KZ id ms b k
 | ms,.block i c,k=>if i=id then some (.code c:: .blk i::k) else KZ id ms c (.blk i::k)
 | ms,.scope c,k=>KZ id ms c (.scp::k)
 | m::ms,.loop b,k=>KZ id ms b (.loopN m b::k)
 | _,_,_=>none
def Ka (id:Nat):List Nat -> Code -> List KI -> Option (List KI)
 | ms,.seq a b,k=>match Ka id ms a (.code b::k) with
  | some r=>some r
  | none=>Ka id ms b k
 | ms,.cond _ a b,k=>match Ka id ms a k with
  | some r=>some r
  | none=>Ka id ms b k
 | ms,.block i c,k=>Ka id ms c (.blk i::k)
 | ms,.scope c,k=>Ka id ms c (.scp::k)
 | m::ms,.loop b,k=>Ka id ms b (.loopN m b::k)
 | _,.region i ops dr,k=>if i=id then some (.code (.region i ops dr)::k) else none
 | _,_,_=>none
def Ai (m:Nat) (k:List KI):List KI:=match k with
 | .code (.loop b)::rest=>.loopN m b::rest
 | _=>[]
def Z3 (m:Nat) (k:List KI):List KI:=match k with
 | .code (.loop b)::rest=>.code b:: .loopN m b::rest
 | _=>[]
def start (f:Func):List KI:=match f.body with
 | some c=>[.code c]
 | none=>[]
def IN (c:Code) (id:Nat):Array Oper:=match c with
 | .region i ops _=>if i=id then ops else #[]
 | .seq a b=>let x:=IN a id;if x.size=0 then IN b id else x
 | .cond _ a b=>let x:=IN a id;if x.size=0 then IN b id else x
 | .block _ c=>IN c id
 | .loop c=>IN c id
 | .scope c=>IN c id
 | .rangeFunc _ _ a b=>let x:=IN a id;if x.size=0 then IN b id else x
 | _=>#[]
def BA (f:Func) (id:Nat):Array Oper:=match f.body with
 | some c=>IN c id
 | none=>#[]
theorem BJ.enter {k:List KI} {S:St} (m:Nat) (hk:Li k=true) (h:Aq P Γ F B L Y Q (Ai m k) S):Aq P Γ F B L Y Q k S:=by
 unfold Li at hk;split at hk
 ·exact Im.loop h
 ·cases hk
theorem BJ.round {k:List KI} {S:St} {n m:Nat} (hm:n+1<=m) (hk:Li k=true) (h: ∀ m,n<=m -> Aq P Γ F B L Y Q (Z3 m k) S):Aq P Γ F B L Y Q (Ai m k) S:=by
 cases m with
 | zero=>omega
 | succ m=>
  have h:=h m (Nat.le_of_succ_le_succ hm);unfold Li at hk;split at hk
  ·refine Tr.mono h fun e S' Y' hq=>?_
   cases e <;> exact hq
  ·cases hk
def AL (n:Nat) (l:List (Nat×DV)):List DV:=(List.range n).map fun i=>match l.find? (fun x=>x.1==i) with
 | some x=>x.2
 | none=>.any
theorem FX.le {fn:Func} {d:DV} {h':DH} {e:Exit} {S S':St} (hS:BF L S S') (h:FX P fn L d h' e S'):FX P fn L d h' e S:=by
 obtain ⟨he,CX,h1,h2⟩:=h;exact ⟨he,CX,hS.trans h1,h2⟩
theorem ES.of_trk {f:Nat} {fn:Func} {ds:List DV} {h:DH} {d:DV} {h':DH} {ext:Bool} (hf:P.funcs[f]? =some fn) (hb:fn.body.isSome=true) (JK:(fn.name== "runtime.NumGoroutine")=false) (hni:Po h') (If:ext=true -> h= [])
 (H: ∀ (B:Nat) (N:BS P Γ h.length),BJ P Γ Fence.wide (some B) h.length N (FX P fn h.length d h') (start fn) ⟨ds++List.replicate (fn.ntmps-ds.length) .any,h⟩):ES P Γ f ds h d h' ext:=by
 cases hc:fn.body with
 | none=>rw [hc] at hb;cases hb
 | some c=>
  refine ES.of_tr hf hc (by simpa using JK) hni (fun B N=>?_) If;have:=H B N;unfold start at this;rw [hc] at this;refine Tr.mono this fun e S Y hq=>?_
  cases e <;> exact hq
def GQ:DV -> Bool
 | .mse .. =>false
 | .mri .. =>false
 | .ref .. =>false
 | .msl .. =>false
 | .mp .. =>false
 | .it _=>false
 | .agg m f=>(List.range m).all fun j=>GQ (f j)
 | .tup m f=>(List.range m).all fun j=>GQ (f j)
 | .fn _ m f=>(List.range m).all fun j=>GQ (f j)
 | _=>true
theorem M3: ∀ {d:DV},GQ d=true -> HF d:=by
 intro d
 induction d with
 | any=>exact fun _ _ _ _ _ _=>trivial
 | nils=>exact fun _ _ _ _ _ h=>h
 | int k n=>exact fun _ _ _ _ _ h=>h
 | bool b=>exact fun _ _ _ _ _ h=>h
 | str s=>exact fun _ _ _ _ _ h=>h
 | ints l=>exact fun _ _ _ _ _ h=>h
 | bools l=>exact fun _ _ _ _ _ h=>h
 | sl m n f _=>exact fun _ _ _ _ _ h=>h
 | fp m f _=>exact fun _ _ _ _ _ h=>h
 | agg m f ih=>exact fun hb=>HF.agg fun j hj=>ih j (yL.1 hb j (yP.2 hj))
 | tup m f ih=>exact fun hb=>HF.tup fun j hj=>ih j (yL.1 hb j (yP.2 hj))
 | ref k j=>exact fun hb=>by cases hb
 | msl k m o n=>exact fun hb=>by cases hb
 | mp k m i j=>exact fun hb=>by cases hb
 | fn g m c ih=>exact fun hb M w ρ v ⟨cs,e,hs,hc⟩=>⟨cs,e,hs,fun j hj=>let ⟨u,h1,h2⟩:=hc j hj;⟨u,h1,ih j (yL.1 hb j (yP.2 hj)) M w ρ u h2⟩⟩
 | it k=>exact fun hb=>by cases hb
 | yl l=>exact fun _ _ _ _ _ h=>h
 | cst u=>exact fun _ _ _ _ _ h=>h
 | mse k m o n=>exact fun hb=>by cases hb
 | mri k i=>exact fun hb=>by cases hb
theorem ES.frameB {f:Nat} {ds:List DV} {d:DV} (h0:ES P Γ f ds [] d [] true) (h:DH) (E6:ds.all GQ=true):ES P Γ f ds h d h true:=h0.frame (fun x hx=>M3 (yL.1 E6 x hx)) h
def SB:DV -> Bool
 | .int .. =>true
 | .bool _=>true
 | .tup m f=>(List.range m).all fun j=>match f j with
  | .int .. =>true
  | .bool _=>true
  | _=>false
 | _=>false
theorem kX {d:DV} (h:SB d=true):GH d:=by
 unfold SB at h;split at h
 ·exact GH.int _ _
 ·exact GH.bool _
 ·rename_i m f;refine GH.tup fun j hj=>?_
  have:=yL.1 h j (yP.2 hj);split at this
  ·rename_i e;rw [e];exact GH.int _ _
  ·rename_i e;rw [e];exact GH.bool _
  ·cases this
 ·cases h
def Kj (h:DH):List DV -> List DV -> Prop
 | [],[]=>True
 | d::ds,d0::DT=>Ad h d d0/\ Kj h ds DT
 | _,_=>False
theorem OE {h:DH}: ∀ {ds DT:List DV},Kj h ds DT -> DT.length=ds.length/\ ∀ i,i<ds.length -> Ad h (ds.getD i .any) (DT.getD i .any)
 | [],[],_=>⟨rfl,fun i hi=>absurd hi (yT i)⟩
 | d::ds,d0::DT,⟨h1,h2⟩=>by
  obtain ⟨e,g⟩:=OE h2;refine ⟨by simp [e],fun i hi=>?_⟩;cases i with
  | zero=>exact h1
  | succ i=>exact g i (by simpa using hi)
 | [],_::_,h=>h.elim
 | _::_,[],h=>h.elim
theorem Ad.plain {h:DH} {d:DV} (hn:GQ d=true):Ad h d d:=Ad.nref (M3 hn)
theorem Ad.nils {h:DH}:Ad h .nils (.ints []):=fun _ _ _ _ _ _ _ hr=>AN.ints_nil _ _ _ _ (AJ.out _ (C0 (M:=fun _=>False) (fun _ hb=>hb) []) hr)
theorem ES.snapB {f:Nat} {ds DT:List DV} {d:DV} (h0:ES P Γ f DT [] d [] true) (h:DH) (hs:Kj h ds DT) (hd:SB d=true):ES P Γ f ds h d h true:=ES.snap h0 h (OE hs).1 (OE hs).2 (kX hd)
theorem AN.of_eq {d d':DV} (h:d=d'):AN d d':=by rw [h];exact AN.refl _
theorem P6 {M:Nat -> Prop} {w:World} {ρ:List AI} {v:Value} {l:List Int} (h:AJ M w (.ints l) ρ v):l.length<=LB:=let ⟨_,_,_,_,h,_⟩:=h;h
theorem jE {x c:Int} (h1:x=c) (h2: -9223372036854775808<=c) (h3:c<=9223372036854775807):IntKind.i64.wrap x=c:=by
 subst h1;rw [zA1];omega
end
end Go.Proofs.YtekkngkphejfcaaGreatDoor
namespace Go.Proofs.YtekkngkphejfcaaGreatDoor
open Go.RowKit
def Kl (w:World):Prop:=TabAt 1 Lib.deBruijn64tab w
def GG:Au where
 ng:=2
 gi:=fun w=>Kl w/\ 2<=w.heap.size
 st:=fun w w' h hu=>⟨fun j hj=>hu.cell (by show ¬ (2<=1);omega) (h.1 j hj),yO h.2 hu.size⟩
 lo:=fun w h=>h.2
end Go.Proofs.YtekkngkphejfcaaGreatDoor
namespace Go.Proofs.YtekkngkphejfcaaGreatDoor
abbrev zAU:=@List.all_cons
end Go.Proofs.YtekkngkphejfcaaGreatDoor
namespace Go.Proofs.YtekkngkphejfcaaGreatDoor
open Go.RowKit
theorem E8 {α:Type} {c:Prop} [Decidable c] {a:Option α} {r:α} (h:(if c then a else none)=some r):c/\ a=some r:=by
 split at h
 ·exact ⟨by assumption,h⟩
 ·cases h
theorem iP {α β:Type} {o:Option β} {f:β -> Option α} {r:α} (h:o.bind f=some r): ∃ v,o=some v/\ f v=some r:=by
 cases o with
 | none=>cases h
 | some v=>exact ⟨v,rfl,h⟩
theorem JV {α:Type} {b:Bool} {x y:Option α} {r:α} (h:(bif b then x else y)=some r):(b=true/\ x=some r)∨(b=false/\ y=some r):=by
 cases b
 ·exact .inr ⟨rfl,h⟩
 ·exact .inl ⟨rfl,h⟩
def np:Int -> Bool
 | .ofNat n=>Nat.ble n 9223372036854775807
 | .negSucc n=>Nat.ble n 9223372036854775807
def AH (x:Int):Prop:=np x=true
instance (x:Int):Decidable (AH x):=by unfold AH;infer_instance
theorem At {x:Int}:AH x↔-9223372036854775808<=x/\ x<=9223372036854775807:=by
 unfold AH;cases x with
 | ofNat n=>
  show Nat.ble n 9223372036854775807=true↔_
  rw [Nat.ble_eq];simp only [Int.ofNat_eq_natCast];omega
 | negSucc n=>
  show Nat.ble n 9223372036854775807=true↔_
  rw [Nat.ble_eq];omega
theorem jF {x:Int} (h:AH x):AN (.int .i64 (IntKind.i64.wrap x)) (.int .i64 x):=AN.int (jE rfl (At.1 h).1 (At.1 h).2)
def comp (live σ:List Nat) (S:St):St:=FA σ ⟨forget live S.fr,S.h⟩
def It (σ:List Nat) (L n:Nat):Bool:=decide σ.Nodup&&σ.all (fun k=>decide (k<n))&&(List.range L).all fun k=>decide (σ[k]? =some k)
theorem BF.comp {L:Nat} (live σ:List Nat) (S:St) (h:It σ L S.h.length=true):BF L S (comp live σ S):=by
 simp only [It,yG,yg,yL,yP] at h;exact (BF.forget live S.fr S.h).trans (BF.compact σ _ h.1.1 (fun k hk=>h.1.2 k hk) (fun k hk=>h.2 k hk))
def Pe (live σ:List Nat) (L:Nat) (r:KO×St×List Prop×Bt):KO×List DV×DH×List Prop×List (DV×DH×Bool)×List (Nat×DV)×Bool:=(r.1,(Proofs.YtekkngkphejfcaaGreatDoor.comp live σ r.2.1).fr,(Proofs.YtekkngkphejfcaaGreatDoor.comp live σ r.2.1).h,r.2.2.1,r.2.2.2.calls,r.2.2.2.co,It σ L r.2.1.h.length)
section
variable {P:Program} {Γ:Au} {F:Fence} {B:Option Nat} {L:Nat} {Y N:BS P Γ L} {Q:QY P Γ L}
theorem oX {Am:BU} {n:Nat} {k:List KI} {S:St} {o:Bt} {live σ:List Nat} {r:KO} {fr:List DV} {h':DH} {vs:List Prop} (h:(Bo P Γ Am n k S o).map (Pe live σ L)=some (r,fr,h',vs,[],[],true)):
 ∃ S' o',Bo P Γ Am n k S o=some (r,S',vs,o')/\ BF L S' ⟨fr,h'⟩:=by
 cases hr:Bo P Γ Am n k S o with
 | none=>rw [hr] at h;cases h
 | some r=>
  obtain ⟨r1,S1,Cs,⟨c1,o1,z1,g1⟩⟩:=r;rw [hr] at h;simp only [yi,Pe,zO,zn] at h;obtain ⟨rfl,rfl,rfl,rfl,rfl,rfl,hs⟩:=h;exact ⟨S1,_,rfl,BF.comp live σ S1 hs⟩
def Hd:List KI -> Bool
 | .code _::_=>true
 | .loopN _ _::_=>true
 | _=>false
theorem Im.weaken {b:Code} {m:Nat} {S S':St} (hS:BF L S S') (h:Im P Γ F B L b Q m S' Y):Im P Γ F B L b Q m S Y:=by
 cases m with
 | zero=>exact h.elim
 | succ m=>exact Tr.weaken hS h
theorem BJ.le {k:List KI} {S S':St} (hS:BF L S S') (hc:Hd k=true) (h:Aq P Γ F B L Y Q k S'):Aq P Γ F B L Y Q k S:=by
 unfold Hd at hc;split at hc
 ·exact Aq.weaken hS h ⟨_,_,rfl⟩
 ·exact Im.weaken hS h
 ·cases hc
theorem BF.frzE {S:St} (k:Nat) (S':St) (vs:List Prop) (h:Qq k S=some (S',vs)) (hv:Bc vs):BF L S S':=fun P Γ N ρ a w R=>
 ⟨ρ,(DK.frzE k S' vs h hv P Γ N ρ a w R).1,(DK.frzE k S' vs h hv P Γ N ρ a w R).2,D0.refl _ _⟩
theorem BF.compE {S:St} (σ:List Nat) (h:It σ L S.h.length=true):BF L S (FA σ S):=by
 simp only [It,yG,yg,yL,yP] at h;exact BF.compact σ _ h.1.1 (fun k hk=>h.1.2 k hk) (fun k hk=>h.2 k hk)
def Wg:Option DO -> Bool
 | some (.iter _)=>false
 | _=>true
theorem dH {h:DH} (hb:h.all Wg=true):Po h:=fun k encs hk=>by
 have:=yL.1 hb _ (yn hk);cases this
theorem Ad.refL {h:DH} {k:Nat} {l l0:List DV} (hk:h[k]? =some (some (.cells l))) (hs:Kj h l l0):Ad h (.ref k 0) (.fp l.length (fun j=>l0.getD j .any)):=
 Ad.ref hk (yf _) fun j hj=>(OE hs).2 j hj
theorem Ad.fnL {h:DH} {g:Nat} {l l0:List DV} (hs:Kj h l l0):Ad h (.fn g l.length (fun j=>l.getD j .any)) (.fn g l.length (fun j=>l0.getD j .any)):=by
 rintro P Γ N ρ w v H ⟨lb,e,hl,hc⟩;exact ⟨lb,e,hl,fun j hj=>let ⟨u,h1,h2⟩:=hc j hj;⟨u,h1,(OE hs).2 j hj P Γ N ρ w u H h2⟩⟩
theorem AN.ixI (l:List Int) {n:Int} {m:Nat} (hm:m=l.length) (h:(0:Int)<=n/\ n<((m:Nat):Int)):AN ((l.map (DV.int .i64)).getD n.toNat .any) (.int .i64 (l.getD n.toNat 0)):=by
 subst hm;have hl:n.toNat<l.length:=by omega
 have:(l.map (DV.int .i64)).getD n.toNat .any= .int .i64 (l.getD n.toNat 0):=by simp [hl]
 rw [this];exact AN.refl _
theorem AN.mslN {k m o n n':Nat} (h:n=n'):AN (.msl k m o n) (.msl k m o n'):=by rw [h];exact AN.refl _
def mh:DO -> Bool
 | .ints _=>true
 | .bools _=>true
 | _=>false
theorem ES.snapNew {f:Nat} {ds DT:List DV} {m n:Nat} {o:DO} (h0:ES P Γ f DT [] (.msl 0 m 0 n) [some o] true) (h:DH) (hs:Kj h ds DT) (ho:mh o=true):ES P Γ f ds h (.msl h.length m 0 n) (h++[some o]) true:=by
 obtain ⟨hl,hs⟩:=OE hs;refine ⟨h0.1,fun N ρ w args HR CK=>?_⟩;refine (h0.2 (fun _=>False) [] w args (NO (fun b hb=>hb.elim) HR.gi) ⟨by rw [hl];exact CK.1,fun i hi=>?_⟩).mono ?_
 ·rw [hl] at hi;exact AJ.out _ (C0 (fun b hb=>MT.1 hb) []) (hs i hi P Γ N ρ w _ HR (CK.2 i hi))
 ·rintro e w' ⟨v,rfl,⟨⟨ρ',g1,g2,g3,g4⟩,g5⟩⟩;have hE:=g5 rfl;obtain ⟨p,hp,Cn⟩:=g1.obj 0 o rfl;have hf: ∀ b,p.foot b -> w.heap.size<=b:=fun b hb=>(g3.grow b ⟨0,o,p,rfl,hp,hb⟩).resolve_left fun ⟨k,o',p',q1,_⟩=>by simp at q1
  obtain ⟨p',cap,A6,e1,e2,e3,e4⟩:=g2;have ep:p'=p:=yK (A6.symm.trans hp);subst ep;refine ⟨v,rfl,⟨⟨ρ++[p'],HR.snoc hE (fun b hb=>⟨hf b hb,(g1.cel 0 o p' b rfl hp hb).2.2⟩) ?_,⟨p',cap,by rw [←HR.len];simp,e1,e2,e3,e4⟩,A8.snoc HR hE hf,fun _ _ h=>De h⟩,g5⟩⟩;cases o with
  | ints l=>exact AS.out Cn rfl fun j u _ hu=>hu
  | bools l=>exact AS.out Cn rfl fun j u _ hu=>hu
  | cells l=>cases ho
  | arr m n f=>cases ho
  | iter encs=>cases ho
  | mo x=>cases ho
theorem ZN {h:DH}: ∀ {ds:List DV},ds.all GQ=true -> Kj h ds ds
 | [],_=>trivial
 | d::ds,hd=>by
  simp only [zAU,yG] at hd;exact ⟨Ad.plain hd.1,ZN hd.2⟩
theorem AN.aggL {m:Nat} {l l':List DV} (hm:m=l.length) (h:JY l l'):AN (.agg m (fun j=>l.getD j .any)) (.agg m (fun j=>l'.getD j .any)):=by
 subst hm;rintro M w ρ v ⟨cs,e,hs,hc⟩;exact ⟨cs,e,hs,fun j hj=>let ⟨u,h1,h2⟩:=hc j hj;⟨u,h1,(Rb h).2 j hj M w ρ u h2⟩⟩
theorem AN.tupL {m:Nat} {l l':List DV} (hm:m=l.length) (h:JY l l'):AN (.tup m (fun j=>l.getD j .any)) (.tup m (fun j=>l'.getD j .any)):=by
 subst hm;rintro M w ρ v ⟨cs,e,hs,hc⟩;exact ⟨cs,e,hs,fun j hj=>let ⟨u,h1,h2⟩:=hc j hj;⟨u,h1,(Rb h).2 j hj M w ρ u h2⟩⟩
theorem Ad.dle {h:DH} {d d0:DV} (hn:GQ d=true) (hd:AN d d0):Ad h d d0:=fun P Γ N ρ w v H hr=>hd _ _ _ _ ((Ad.nref (M3 hn)) P Γ N ρ w v H hr)
theorem ES.argsLe {f:Nat} {ds DT:List DV} {h h':DH} {d:DV} {ext:Bool} (h0:ES P Γ f DT h d h' ext) (hd:JY ds DT):ES P Γ f ds h d h' ext:=by
 obtain ⟨hl,hd⟩:=Rb hd;exact ⟨h0.1,fun N ρ w args HR CK=>h0.2 N ρ w args HR ⟨by rw [←hl];exact CK.1,fun i hi=>hd i (by omega) _ _ _ _ (CK.2 i (by omega))⟩⟩
theorem AN.mse_msl {k m o n n':Nat} (h:0<n) (e:n=n'):AN (.mse k m o n) (.msl k m o n'):=by
 subst e;rintro M w ρ v ⟨p,a,cap,hp,rfl,h1,h2,h3⟩;obtain ⟨rfl,h4⟩:=h3 (by omega);exact ⟨p,cap,hp,rfl,h1,h2,h4⟩
theorem AN.mse_nil {k m o n:Nat} (h:n=0):AN (.mse k m o n) (.ints []):=by
 subst h;rintro M w ρ v ⟨p,a,cap,hp,rfl,h1,h2,h3⟩;exact ⟨a,cap,rfl,zz _,zz _,fun j hj=>absurd hj (yT j)⟩
theorem Sq {n:Nat} (h:(n==0)=false):0<n:=by
 have:n≠0:=by simpa using h
 omega
def Ju (k off k':Nat):DV -> DV
 | .msl k1 m o n=>if k1=k/\ m=1/\ o=off then .msl k' 1 0 n else .msl k1 m o n
 | d=>d
def bX (k off:Nat) (S:St):Option (St×List Prop):=match S.h.getD k none with
 | some (.ints l)=>some (⟨S.fr.map (Ju k off S.h.length),S.h.set k none++[some (.ints (l.drop off))]⟩,[off<=l.length])
 | _=>none
theorem BF.rootE {S:St} (k off:Nat) (S':St) (vs:List Prop) (h:bX k off S=some (S',vs)) (hv:Bc vs):BF L S S':=fun P Γ N ρ a w R=>by
 unfold bX at h;split at h
 ·rename_i l hl;cases h;have hv:=hv.1;have hk:=getD_some hl;obtain ⟨p,hp,hr⟩:=R.hr.obj k _ hk;have hr:AS w p l.length _:=hr;obtain ⟨hf,cs,t,c1,c2,c3,c4⟩:=hr
  let p':AI:={ p with off:=p.off+off }
  obtain ⟨g1,g2⟩:=R.hr.regrow (o':=.ints (l.drop off)) (p':=p') hk hp (AM.refl _ _) (fun b hb=>⟨.inl hb,(R.hr.cel k _ p b hk hp hb).2.2⟩) (by
   refine ⟨hf,cs,t,c1,?_,c3,fun j hj=>?_⟩
   ·simp only [zAi,p'];omega
   ·rw [zAi] at hj;obtain ⟨u,q1,q2⟩:=c4 (off+j) (by omega);refine ⟨u,by rw [←q1];simp only [p',zB],?_⟩;rw [q2];simp [u8,zm])
  have O:BM (MS N S.h ρ) w ρ (MS N (S.h.set k none++[some (.ints (l.drop off))]) (ρ++[p'])) w (ρ++[p']):=⟨fun _ _ _ _=>rfl,fun b hb=>hb.elim (fun h=>.inl (.inl h)) fun h=>(g2.grow b h).imp .inr id,fun _ _ h=>De h⟩;refine ⟨ρ++[p'],⟨g1,by simp [R.fr.1],fun i hi=>?_⟩,g2,fun _ _ _ h=>De h⟩;have A7:i<S.fr.length:=by simpa using hi
  have e:(S.fr.map (Ju k off S.h.length)).getD i .any=Ju k off S.h.length (S.fr.getD i .any):=by simp [A7]
  show AJ _ w ((S.fr.map (Ju k off S.h.length)).getD i .any) _ _
  rw [e];have r0:=R.fr.2 i A7;cases hd:S.fr.getD i .any with
  | msl k1 m o n=>
   rw [hd] at r0
   by_cases hc:k1=k/\ m=1/\ o=off
   ·have e2:Ju k off S.h.length (.msl k1 m o n)= .msl S.h.length 1 0 n:=by simp only [Ju,yC hc]
    rw [e2];obtain ⟨h1,h2,h3⟩:=hc;rw [h1,h2,h3] at r0;obtain ⟨q,cap,hq,hu,u1,u2,u3⟩:=r0;have eq:q=p:=yK (hq.symm.trans hp);subst eq;exact ⟨p',cap,by rw [←R.hr.len];simp,by rw [hu];simp [p'],u1,u2,by simp only [p'];omega⟩
   ·have e2:Ju k off S.h.length (.msl k1 m o n)= .msl k1 m o n:=by simp only [Ju,yM hc]
    rw [e2];exact AJ.out _ O r0
  | _=>rw [hd] at r0;exact AJ.out _ O r0
 ·cases h
theorem AN.msl_mse {k m o n:Nat}:AN (.msl k m o n) (.mse k m o n):=fun _ _ _ _ ⟨p,cap,hp,hv,h1,h2,h3⟩=>⟨p,_,cap,hp,hv,h1,h2,fun _=>⟨rfl,h3⟩⟩
def LY (k q:Nat):DV -> DV
 | .msl k1 m o n=>if k1=k then .msl q m o n else .msl k1 m o n
 | .mse k1 m o n=>if k1=k then .mse q m o n else .mse k1 m o n
 | d=>d
def mapOb (g:DV -> DV):Option DO -> Option DO
 | some (.cells l)=>some (.cells (l.map g))
 | o=>o
def dQ (k:Nat) (S:St):Option St:=match S.h.getD k none with
 | some (.ints l)=>some ⟨S.fr.map (LY k S.h.length),(S.h.set k none++[some (DO.ints l)]).map (mapOb (LY k S.h.length))⟩
 | _=>none
theorem Pr {g:DV -> DV} {h:DH} {k:Nat} {o':DO} (hk:(h.map (mapOb g))[k]? =some (some o')): ∃ o,h[k]? =some (some o)/\ mapOb g (some o)=some o':=by
 rw [yS] at hk;cases hx:h[k]? with
 | none=>rw [hx] at hk;cases hk
 | some x=>
  rw [hx] at hk;have hk:mapOb g x=some o':=yK hk;cases x with
  | none=>cases hk
  | some o=>exact ⟨o,rfl,hk⟩
theorem MO.mapOb {g:DV -> DV} {h:DH} {ρ:List AI} {b:Nat}:MO (h.map (mapOb g)) ρ b↔MO h ρ b:=by
 constructor
 ·rintro ⟨k,o',p,h1,h2,h3⟩;obtain ⟨o,g1,_⟩:=Pr h1;exact ⟨k,o,p,g1,h2,h3⟩
 ·rintro ⟨k,o,p,h1,h2,h3⟩;cases o with
  | cells l=>exact ⟨k,.cells (l.map g),p,by rw [yS,h1];rfl,h2,h3⟩
  | _=>exact ⟨k,_,p,by rw [yS,h1];rfl,h2,h3⟩
theorem BK.mapCells {N:Nat -> Prop} {h:DH} {ρ:List AI} {w:World} (H:BK P Γ N h ρ w) {g:DV -> DV} (hg: ∀ d u,AJ (MS N h ρ) w d ρ u -> AJ (MS N h ρ) w (g d) ρ u):BK P Γ N (h.map (mapOb g)) ρ w:=by
 have hM: ∀ b,MS N (h.map (mapOb g)) ρ b -> MS N h ρ b:=fun b hb=>hb.imp id MO.mapOb.1
 refine ⟨by rw [H.len];simp,fun k o' hk=>?_,fun k o' p b h1 h2 h3=>?_,fun k k' o1 o2 p1 p2 b AV h1 h2 h3 h4 h5 h6=>?_,H.nlt,H.gi⟩
 ·obtain ⟨o,h1,h2⟩:=Pr hk;obtain ⟨p,hp,hr⟩:=H.obj k o h1;refine ⟨p,hp,?_⟩;have O:BM (MS N h ρ) w ρ (MS N (h.map (mapOb g)) ρ) w ρ:=⟨fun _ _ _ _=>rfl,fun b hb=>.inl (hM b hb),fun _ _ h=>h⟩;cases o with
  | cells l=>
   cases h2
   show AS w p (l.map g).length _
   rw [yr];refine AS.out hr rfl fun j u hj hu=>?_
   have e:(l.map g).getD j .any=g (l.getD j .any):=by simp [hj]
   rw [e];exact AJ.out _ O (hg _ _ hu)
  | ints l=>cases h2;exact AS.out hr rfl fun j u _ hu=>hu
  | bools l=>cases h2;exact AS.out hr rfl fun j u _ hu=>hu
  | arr m n f=>cases h2;exact AS.out hr rfl fun j u _ hu=>AJ.out _ O.nil hu
  | iter encs=>
   cases h2;obtain ⟨gf,lb,Rd,q1,q2,q3,q4⟩:=hr;exact ⟨gf,lb,Rd,q1,q2,fun b hb=>⟨fun hm=>(q3 b hb).1 (hM b hm),(q3 b hb).2⟩,q4⟩
  | mo x=>cases h2;exact hr
 ·obtain ⟨o,g1,_⟩:=Pr h1;exact H.cel k o p b g1 h2 h3
 ·obtain ⟨o,g1,_⟩:=Pr h1;obtain ⟨o',g2,_⟩:=Pr h2;exact H.dis k k' o o' p1 p2 b AV g1 g2 h3 h4 h5 h6
theorem BF.moveE {S:St} (k:Nat) (S':St) (h:dQ k S=some S'):BF L S S':=fun P Γ N ρ a w R=>by
 unfold dQ at h;split at h
 ·rename_i l hl;cases h;have hk:=getD_some hl;obtain ⟨p,hp,hr⟩:=R.hr.obj k _ hk;obtain ⟨g1,g2⟩:=R.hr.regrow (o':=.ints l) (p':=p) hk hp (AM.refl _ _) (fun b hb=>⟨.inl hb,(R.hr.cel k _ p b hk hp hb).2.2⟩) hr;have FN: ∀ (i:Nat) (q:AI),ρ[i]? =some q -> (ρ++[p])[i]? =some q:=fun _ _ h=>De h
  have O:BM (MS N S.h ρ) w ρ (MS N (S.h.set k none++[some (DO.ints l)]) (ρ++[p])) w (ρ++[p]):=⟨fun _ _ _ _=>rfl,fun b hb=>hb.elim (fun h=>.inl (.inl h)) fun h=>(g2.grow b h).imp .inr id,FN⟩;have hq:(ρ++[p])[S.h.length]? =some p:=by rw [←R.hr.len];simp
  have mv: ∀ {M:Nat -> Prop} (d:DV) (u:Value),AJ M w d (ρ++[p]) u -> AJ M w (LY k S.h.length d) (ρ++[p]) u:=fun {M} d u hd=>by
   unfold LY;split
   ·rename_i k1 m o n;split
    ·rename_i e;obtain ⟨q,cap,NR,r⟩:=hd;subst e;have:q=p:=yK (NR.symm.trans (FN _ _ hp));subst this;exact ⟨q,cap,hq,r⟩
    ·exact hd
   ·rename_i k1 m o n;split
    ·rename_i e;obtain ⟨q,a0,cap,NR,r⟩:=hd;subst e;have:q=p:=yK (NR.symm.trans (FN _ _ hp));subst this;exact ⟨q,a0,cap,hq,r⟩
    ·exact hd
   ·exact hd
  have R1:=g1.mapCells (g:=LY k S.h.length) fun d u=>mv d u
  have hM: ∀ b,MS N ((S.h.set k none++[some (DO.ints l)]).map (mapOb (LY k S.h.length))) (ρ++[p]) b -> MS N (S.h.set k none++[some (DO.ints l)]) (ρ++[p]) b:=fun b hb=>hb.imp id MO.mapOb.1
  have O2:BM (MS N (S.h.set k none++[some (DO.ints l)]) (ρ++[p])) w (ρ++[p]) (MS N ((S.h.set k none++[some (DO.ints l)]).map (mapOb (LY k S.h.length))) (ρ++[p])) w (ρ++[p]):=⟨fun _ _ _ _=>rfl,fun b hb=>.inl (hM b hb),fun _ _ h=>h⟩;exact ⟨ρ++[p],⟨R1,((R.fr.out O).map fun d u=>mv d u).out O2⟩,⟨g2.upd,fun b hb=>g2.grow b (MO.mapOb.1 hb)⟩,fun _ _ _ h=>De h⟩
 ·cases h
end
end Go.Proofs.YtekkngkphejfcaaGreatDoor
namespace Go.Proofs.YtekkngkphejfcaaGreatDoor
open Go.RowKit
def CZ (σ:List Nat) (b k:Nat):Nat:=if k<σ.length then σ.getD k 0 else b+(k-σ.length)
def up (σ:List Nat) (b:Nat):DV -> DV
 | .ref k j=>.ref (CZ σ b k) j
 | .msl k m o n=>.msl (CZ σ b k) m o n
 | .mse k m o n=>.mse (CZ σ b k) m o n
 | .mri k i=>.mri (CZ σ b k) i
 | .mp k m i j=>.mp (CZ σ b k) m i j
 | .it k=>.it (CZ σ b k)
 | .agg m f=>.agg m (Fx m fun j=>up σ b (f j))
 | .tup m f=>.tup m (Fx m fun j=>up σ b (f j))
 | .fn g m c=>.fn g m (Fx m fun j=>up σ b (c j))
 | d=>d
def Ca (σ:List Nat) (b:Nat):Option DO -> Option DO
 | some (.cells l)=>some (.cells (l.map (up σ b)))
 | o=>o
def Cf (H:DH) (σ:List Nat) (h':DH):DH:=((List.range H.length).map fun k=>match Cj σ k with
 | some i=>Ca σ H.length (h'.getD i none)
 | none=>H.getD k none)++(h'.drop σ.length).map (Ca σ H.length)
theorem Mt {σ:List Nat} (hn:σ.Nodup) {i k:Nat} (h:σ[i]? =some k):Cj σ k=some i:=by
 induction σ generalizing i with
 | nil=>simp at h
 | cons x σ ih=>
  unfold Cj;cases i with
  | zero=>
   have:x=k:=by simpa using h
   rw [yC this]
  | succ i=>
   have h':σ[i]? =some k:=by simpa using h
   have AV:x≠k:=by
    rintro rfl;exact (zAo.1 hn).1 (yn h')
   rw [yM AV,ih (zAo.1 hn).2 h'];rfl
theorem MZ {σ:List Nat} {b:Nat} {x:Option DO} {o:DO} (h:Ca σ b x=some o): ∃ o0,x=some o0:=by
 cases x with
 | none=>cases h
 | some o0=>exact ⟨o0,rfl⟩
section
variable {P:Program} {Γ:Au}
theorem Zz {M M':Nat -> Prop} {w:World} {σ:List Nat} {b:Nat} {ρ ρ':List AI} (hM: ∀ b,M' b -> M b) (hρ: ∀ (k:Nat) (p:AI),ρ[k]? =some p -> ρ'[CZ σ b k]? =some p): ∀ (d:DV) {v:Value},AJ M w d ρ v -> AJ M' w (up σ b d) ρ' v:=by
 have low: ∀ (d:DV) {v:Value},AJ M w d [] v -> AJ M' w d [] v:=fun d v h=>h.out d (C0 hM [])
 intro d
 induction d with
 | any=>intro v _;trivial
 | nils=>intro v h;exact h
 | int k n=>intro v h;exact h
 | bool b=>intro v h;exact h
 | str s=>intro v h;exact h
 | ints l=>intro v h;exact low (.ints l) h
 | bools l=>intro v h;exact low (.bools l) h
 | sl m n f _=>intro v h;exact low (.sl m n f) h
 | fp m f _=>intro v h;exact low (.fp m f) h
 | agg m f ih=>
  rintro v ⟨cs,e,hs,h⟩;exact ⟨cs,e,hs,fun j hj=>let ⟨u,h1,h2⟩:=h j hj;⟨u,h1,HJ hj (ih j h2)⟩⟩
 | tup m f ih=>
  rintro v ⟨cs,e,hs,h⟩;exact ⟨cs,e,hs,fun j hj=>let ⟨u,h1,h2⟩:=h j hj;⟨u,h1,HJ hj (ih j h2)⟩⟩
 | fn g m c ih=>
  rintro v ⟨cs,e,hs,h⟩;exact ⟨cs,e,hs,fun j hj=>let ⟨u,h1,h2⟩:=h j hj;⟨u,h1,HJ hj (ih j h2)⟩⟩
 | ref k j=>rintro v ⟨p,hp,r⟩;exact ⟨p,hρ k p hp,r⟩
 | msl k m o n=>rintro v ⟨p,cap,hp,r⟩;exact ⟨p,cap,hρ k p hp,r⟩
 | mp k m i j=>rintro v ⟨p,hp,r⟩;exact ⟨p,hρ k p hp,r⟩
 | it k=>rintro v ⟨p,hp,r⟩;exact ⟨p,hρ k p hp,r⟩
 | cst u=>intro v h;exact h
 | yl l=>intro v h;exact h
 | mse k m o n=>rintro v ⟨p,a,cap,hp,r⟩;exact ⟨p,a,cap,hρ k p hp,r⟩
 | mri k i=>rintro v ⟨p,vs,hp,r⟩;exact ⟨p,vs,hρ k p hp,r⟩
theorem Ym {M M':Nat -> Prop} {w:World} {σ:List Nat} {b:Nat} {ρ ρ':List AI} (hM: ∀ b,M' b -> M b) (hρ: ∀ (k:Nat) (p:AI),ρ[CZ σ b k]? =some p -> ρ'[k]? =some p): ∀ (d:DV) {v:Value},AJ M w (up σ b d) ρ v -> AJ M' w d ρ' v:=by
 have low: ∀ (d:DV) {v:Value},AJ M w d [] v -> AJ M' w d [] v:=fun d v h=>h.out d (C0 hM [])
 have Vb: ∀ {m j:Nat} {f:Nat -> DV} {u:Value},j<m -> AJ M w (Fx m f j) ρ u -> AJ M w (f j) ρ u:=fun hj h=>by rw [Ru hj] at h;exact h
 intro d
 induction d with
 | any=>intro v _;trivial
 | nils=>intro v h;exact h
 | int k n=>intro v h;exact h
 | bool b=>intro v h;exact h
 | str s=>intro v h;exact h
 | ints l=>intro v h;exact low (.ints l) h
 | bools l=>intro v h;exact low (.bools l) h
 | sl m n f _=>intro v h;exact low (.sl m n f) h
 | fp m f _=>intro v h;exact low (.fp m f) h
 | agg m f ih=>
  rintro v ⟨cs,e,hs,h⟩;exact ⟨cs,e,hs,fun j hj=>let ⟨u,h1,h2⟩:=h j hj;⟨u,h1,ih j (Vb hj h2)⟩⟩
 | tup m f ih=>
  rintro v ⟨cs,e,hs,h⟩;exact ⟨cs,e,hs,fun j hj=>let ⟨u,h1,h2⟩:=h j hj;⟨u,h1,ih j (Vb hj h2)⟩⟩
 | fn g m c ih=>
  rintro v ⟨cs,e,hs,h⟩;exact ⟨cs,e,hs,fun j hj=>let ⟨u,h1,h2⟩:=h j hj;⟨u,h1,ih j (Vb hj h2)⟩⟩
 | ref k j=>rintro v ⟨p,hp,r⟩;exact ⟨p,hρ k p hp,r⟩
 | msl k m o n=>rintro v ⟨p,cap,hp,r⟩;exact ⟨p,cap,hρ k p hp,r⟩
 | mp k m i j=>rintro v ⟨p,hp,r⟩;exact ⟨p,hρ k p hp,r⟩
 | it k=>rintro v ⟨p,hp,r⟩;exact ⟨p,hρ k p hp,r⟩
 | cst u=>intro v h;exact h
 | yl l=>intro v h;exact h
 | mse k m o n=>rintro v ⟨p,a,cap,hp,r⟩;exact ⟨p,a,cap,hρ k p hp,r⟩
 | mri k i=>rintro v ⟨p,vs,hp,r⟩;exact ⟨p,vs,hρ k p hp,r⟩
theorem jf {M M':Nat -> Prop} {w:World} {σ:List Nat} {b:Nat} {ρ ρ':List AI} {p:AI} (hM: ∀ b,M' b -> M b) (hρ: ∀ (k:Nat) (p:AI),ρ[k]? =some p -> ρ'[CZ σ b k]? =some p) {o o':DO} (ho:Ca σ b (some o)=some o') (h:Cp P M w ρ p o):Cp P M' w ρ' p o':=by
 cases o with
 | cells l=>
  cases ho
  show AS w p (l.map (up σ b)).length _
  rw [yr];refine AS.out h rfl fun j u hj hu=>?_
  have:(l.map (up σ b)).getD j .any=up σ b (l.getD j .any):=by simp [hj]
  rw [this];exact Zz hM hρ _ hu
 | ints l=>cases ho;exact AS.out h rfl fun j u _ hu=>hu
 | bools l=>cases ho;exact AS.out h rfl fun j u _ hu=>hu
 | arr m n f=>cases ho;exact AS.out h rfl fun j u _ hu=>AJ.out _ (C0 hM []) hu
 | iter encs=>
  cases ho;obtain ⟨gf,lb,Rd,q1,q2,q3,q4⟩:=h;exact ⟨gf,lb,Rd,q1,q2,fun b hb=>⟨fun hm=>(q3 b hb).1 (hM b hm),(q3 b hb).2⟩,q4⟩
 | mo x=>cases ho;exact h
theorem gq {M M':Nat -> Prop} {w:World} {σ:List Nat} {b:Nat} {ρ ρ':List AI} {p:AI} (hM: ∀ b,M' b -> M b) (hρ: ∀ (k:Nat) (p:AI),ρ[CZ σ b k]? =some p -> ρ'[k]? =some p) {o o':DO} (ho:Ca σ b (some o)=some o') (h:Cp P M w ρ p o'):Cp P M' w ρ' p o:=by
 cases o with
 | cells l=>
  cases ho;have h:AS w p (l.map (up σ b)).length _:=h;rw [yr] at h;refine AS.out h rfl fun j u hj hu=>?_
  have:(l.map (up σ b)).getD j .any=up σ b (l.getD j .any):=by simp [hj]
  rw [this] at hu;exact Ym hM hρ _ hu
 | ints l=>cases ho;exact AS.out h rfl fun j u _ hu=>hu
 | bools l=>cases ho;exact AS.out h rfl fun j u _ hu=>hu
 | arr m n f=>cases ho;exact AS.out h rfl fun j u _ hu=>AJ.out _ (C0 hM []) hu
 | iter encs=>
  cases ho;obtain ⟨gf,lb,Rd,q1,q2,q3,q4⟩:=h;exact ⟨gf,lb,Rd,q1,q2,fun b hb=>⟨fun hm=>(q3 b hb).1 (hM b hm),(q3 b hb).2⟩,q4⟩
 | mo x=>cases ho;exact h
theorem ES.embed {f:Nat} {ds:List DV} {h:DH} {d:DV} {h':DH} {ext:Bool} (EC:ES P Γ f ds h d h' ext) (σ:List Nat) (H:DH) (hn:σ.Nodup) (AK: ∀ k∈σ,k<H.length) (hl:σ.length=h.length) (Dt:h.length<=h'.length)
 (hh:(σ.map fun k=>H.getD k none)=h.map (Ca σ H.length)):ES P Γ f (ds.map (up σ H.length)) H (up σ H.length d) (Cf H σ h') ext:=by
 refine ⟨EC.1,fun N ρ w args HR CK=>?_⟩;obtain ⟨ρ0,P9⟩: ∃ ρ0,ρ0=σ.map fun k=>ρ.getD k Wf:=⟨_,rfl⟩
 have Px:ρ0.length=σ.length:=by rw [P9];simp
 have EW: ∀ {i k:Nat},σ[i]? =some k -> ρ0[i]? =ρ[k]? :=fun {i k} hk=>by
  have DG:k<ρ.length:=by rw [HR.len];exact AK k (yn hk)
  rw [P9,yS,hk];simp [DG]
 have Iu: ∀ {i:Nat},i<σ.length -> ∃ k,σ[i]? =some k/\ CZ σ H.length i=k:=fun {i} hi=>by
  refine ⟨σ[i],by simp [hi],?_⟩;unfold CZ;rw [yC hi];simp [hi]
 have F3: ∀ {i:Nat} {o:DO},h[i]? =some (some o) -> ∃ k o',σ[i]? =some k/\ H[k]? =some (some o')/\ Ca σ H.length (some o)=some o':=fun {i o} hi=>by
  have CS:i<σ.length:=by rw [hl];exact (yJ.1 hi).1
  obtain ⟨k,hk,_⟩:=Iu CS;have e:=congrArg (·[i]?) hh;simp only [yS,hk,hi,yi] at e;have Bi:=AK k (yn hk);have e:H.getD k none=Ca σ H.length (some o):=yK e;have e2: ∃ o',Ca σ H.length (some o)=some o':=by cases o <;> exact ⟨_,rfl⟩
  obtain ⟨o',GT⟩:=e2;refine ⟨k,o',hk,?_,GT⟩;rw [GT] at e;rw [xz Bi];rw [u8,xz Bi] at e;exact congrArg some e
 have cx: ∀ {i k:Nat} {o':DO},σ[i]? =some k -> H[k]? =some (some o') -> ∃ o,h[i]? =some (some o)/\ Ca σ H.length (some o)=some o':=fun {i k o'} hk ho=>by
  have CS:i<h.length:=by rw [←hl];exact (yJ.1 hk).1
  have e:=congrArg (·[i]?) hh;simp only [yS,hk,xz CS,yi] at e;have e:H.getD k none=Ca σ H.length h[i]:=yK e;rw [UN ho] at e;obtain ⟨o0,e0⟩:=MZ e.symm;exact ⟨o0,by rw [xz CS,e0],by rw [e0] at e;exact e.symm⟩
 obtain ⟨N0,Fq⟩: ∃ N0:Nat -> Prop,N0=fun b=>N b∨∃ k o p,Cj σ k=none/\ H[k]? =some (some o)/\ ρ[k]? =some p/\ p.foot b:=⟨_,rfl⟩
 have Gs: ∀ b,MO h ρ0 b -> MO H ρ b:=by
  rintro b ⟨i,o,p,g1,g2,g3⟩;obtain ⟨k,o',e1,e2,_⟩:=F3 g1;exact ⟨k,o',p,e2,(EW e1).symm.trans g2,g3⟩
 have LZ: ∀ b,MS N0 h ρ0 b -> MS N H ρ b:=by
  rintro b (hb | hb)
  ·rw [Fq] at hb;rcases hb with hb | ⟨k,o,p,_,g1,g2,g3⟩
   ·exact .inl hb
   ·exact .inr ⟨k,o,p,g1,g2,g3⟩
  ·exact .inr (Gs b hb)
 have ms1: ∀ b,MS N H ρ b -> MS N0 h ρ0 b:=by
  rintro b (hb | ⟨k,o,p,g1,g2,g3⟩)
  ·exact .inl (by rw [Fq];exact .inl hb)
  ·cases hk:Cj σ k with
   | none=>exact .inl (by rw [Fq];exact .inr ⟨k,o,p,hk,g1,g2,g3⟩)
   | some i=>
    have hi:=IM hk;obtain ⟨o0,e1,_⟩:=cx hi g1;exact .inr ⟨i,o0,p,e1,(EW hi).trans g2,g3⟩
 have dn: ∀ (k:Nat) (p:AI),ρ[CZ σ H.length k]? =some p -> ρ0[k]? =some p:=fun k p hp=>by
  by_cases hk:k<σ.length
  ·obtain ⟨k',e1,e2⟩:=Iu hk;rw [e2] at hp;exact (EW e1).trans hp
  ·unfold CZ at hp;rw [yM hk] at hp;have:=(yJ.1 hp).1;rw [HR.len] at this;omega
 have foreign: ∀ {b:Nat},N0 b -> ¬ MO h ρ0 b:=by
  rintro b hb ⟨i,o,p,g1,g2,g3⟩;obtain ⟨k,o',e1,e2,_⟩:=F3 g1;have hp:=(EW e1).symm.trans g2;rw [Fq] at hb;rcases hb with hb | ⟨k',o2,p2,q1,q2,q3,q4⟩
  ·exact (HR.cel k o' p b e2 hp g3).2.1 hb
  ·refine HR.dis k k' o' o2 p p2 b ?_ e2 q2 hp q3 g3 q4;rintro rfl;rw [Mt hn e1] at q1;cases q1
 have H0:BK P Γ N0 h ρ0 w:=by
  refine ⟨by rw [Px,hl],fun i o hi=>?_,fun i o p b g1 g2 g3=>?_,fun i i' o1 o2 p1 p2 b AV g1 g2 g3 g4 g5 g6=>?_,fun b hb=>HR.lt2 (LZ b (.inl hb)),HR.gi⟩
  ·obtain ⟨k,o',e1,e2,e3⟩:=F3 hi;obtain ⟨p,hp,hr⟩:=HR.obj k o' e2;exact ⟨p,(EW e1).trans hp,gq LZ dn e3 hr⟩
  ·obtain ⟨k,o',e1,e2,e3⟩:=F3 g1;obtain ⟨q1,q2,q3⟩:=HR.cel k o' p b e2 ((EW e1).symm.trans g2) g3;exact ⟨q1,fun hb=>foreign hb ⟨i,o,p,g1,g2,g3⟩,q3⟩
  ·obtain ⟨k,o',e1,e2,e3⟩:=F3 g1;obtain ⟨k',Wb,Nu,Q0,vr⟩:=F3 g2;refine HR.dis k k' o' Wb p1 p2 b ?_ e2 Q0 ((EW e1).symm.trans g3) ((EW Nu).symm.trans g4) g5 g6;rintro rfl;have a1:=Mt hn e1;have a2:=Mt hn Nu;exact AV (yK (a1.symm.trans a2))
 refine (EC.2 N0 ρ0 w args H0 ⟨by rw [←CK.1];simp,fun i hi=>?_⟩).mono ?_
 ·have:=CK.2 i (by simpa using hi);have e:(ds.map (up σ H.length)).getD i .any=up σ H.length (ds.getD i .any):=by simp [hi]
  rw [e] at this;exact Ym LZ dn _ this
 ·rintro e w' ⟨v,rfl,⟨⟨ρ1,g1,g2,g3,g4⟩,g5⟩⟩;have l1:ρ1.length=h'.length:=g1.len;obtain ⟨ρ',Fl⟩: ∃ ρ',ρ'=ρ++ρ1.drop σ.length:=⟨_,rfl⟩
  have RV: ∀ {i k:Nat},σ[i]? =some k -> ρ1[i]? =ρ[k]? :=fun {i k} hk=>by
   have CS:i<ρ0.length:=by rw [Px];exact (yJ.1 hk).1
   have:=g4 i ρ0[i] (by simp [CS]);rw [this,←EW hk];simp [CS]
  have Eh: ∀ {k:Nat},k<H.length -> ρ'[k]? =ρ[k]? :=fun {k} hk=>by rw [Fl,yW (by rw [HR.len];exact hk)]
  have OS: ∀ (k:Nat) (p:AI),ρ1[k]? =some p -> ρ'[CZ σ H.length k]? =some p:=fun k p hp=>by
   by_cases hk:k<σ.length
   ·obtain ⟨k',e1,e2⟩:=Iu hk;rw [e2,Eh (AK k' (yn e1)),←RV e1];exact hp
   ·unfold CZ;rw [yM hk,Fl,yh (by rw [HR.len];omega),zm,HR.len];rw [show σ.length+(H.length+(k-σ.length)-H.length)=k by omega];exact hp
  have Wu:(Cf H σ h').length=H.length+(h'.length-σ.length):=by simp [Cf]
  have Fy: ∀ {k:Nat} {o':DO},(Cf H σ h')[k]? =some (some o') -> (k<H.length/\ Cj σ k=none/\ H[k]? =some (some o')/\ ρ'[k]? =ρ[k]?)∨∃ i o,h'[i]? =some (some o)/\ Ca σ H.length (some o)=some o'/\ ρ'[k]? =ρ1[i]? /\ k=CZ σ H.length i:=by
   intro k o' hk
   by_cases Bi:k<H.length
   ·unfold Cf at hk;rw [yW (by simpa using Bi),yS,zy Bi] at hk;simp only [yi,zO] at hk;split at hk
    ·rename_i i hi;have JN:=IM hi;obtain ⟨o0,e0⟩:=MZ hk;have CS:i<h'.length:=yN (by rw [←hl];exact (yJ.1 JN).1) Dt;rw [e0] at hk;refine .inr ⟨i,o0,?_,hk,?_,?_⟩
     ·rw [xz CS];rw [u8,xz CS] at e0;exact congrArg some e0
     ·rw [Eh Bi,RV JN]
     ·obtain ⟨k2,e1,e2⟩:=Iu (yJ.1 JN).1;rw [e2];exact yK (JN.symm.trans e1)
    ·rename_i hi;refine .inl ⟨Bi,hi,?_,Eh Bi⟩;rw [xz Bi];rw [u8,xz Bi] at hk;exact congrArg some hk
   ·unfold Cf at hk;rw [yh (by simp;omega),yS,zm] at hk;simp only [yr,zAF] at hk;cases hx:h'[σ.length+(k-H.length)]? with
    | none=>rw [hx] at hk;cases hk
    | some x=>
     rw [hx] at hk;have hk:Ca σ H.length x=some o':=yK hk;obtain ⟨o0,e0⟩:=MZ hk;subst e0;refine .inr ⟨σ.length+(k-H.length),o0,hx,hk,?_,?_⟩
     ·rw [Fl,yh (by rw [HR.len];omega),zm,HR.len]
     ·unfold CZ;rw [yM (by omega)];omega
  have back: ∀ {k:Nat} {o:DO},Cj σ k=none -> H[k]? =some (some o) -> (Cf H σ h')[k]? =some (some o):=by
   intro k o hk ho;have Bi:=(yJ.1 ho).1;unfold Cf;rw [yW (by simpa using Bi),yS,zy Bi];simp only [yi,hk,UN ho]
  have dO: ∀ b,MS N (Cf H σ h') ρ' b -> MS N0 h' ρ1 b:=by
   rintro b (hb | ⟨k,o',p,q1,q2,q3⟩)
   ·exact .inl (by rw [Fq];exact .inl hb)
   ·rcases Fy q1 with ⟨a1,a2,a3,a4⟩ | ⟨i,o,a1,a2,a3,a4⟩
    ·exact .inl (by rw [Fq];exact .inr ⟨k,o',p,a2,a3,a4.symm.trans q2,q3⟩)
    ·exact .inr ⟨i,o,p,a1,a3.symm.trans q2,q3⟩
  have grow: ∀ b,MO (Cf H σ h') ρ' b -> MO H ρ b∨w.heap.size<=b:=by
   rintro b ⟨k,o',p,q1,q2,q3⟩;rcases Fy q1 with ⟨a1,a2,a3,a4⟩ | ⟨i,o,a1,a2,a3,a4⟩
   ·exact .inl ⟨k,o',p,a3,a4.symm.trans q2,q3⟩
   ·exact (g3.grow b ⟨i,o,p,a1,a3.symm.trans q2,q3⟩).imp (Gs b) id
  have pl: ∀ (k:Nat) (p:AI),ρ[k]? =some p -> ρ'[k]? =some p:=fun k p hp=>by
   rw [Fl,yW (yJ.1 hp).1];exact hp
  have O:BM (MS N H ρ) w ρ (MS N (Cf H σ h') ρ') w' ρ':=
   ⟨fun b hb hm _=>g3.upd.block b hb fun hx=>hm (.inr (Gs b hx)),fun b hb=>hb.elim (fun hb=>.inl (.inl hb)) (fun hb=>(grow b hb).imp .inr id),pl⟩
  refine ⟨v,rfl,⟨⟨ρ',⟨?_,fun k o' hk=>?_,fun k o' p b q1 q2 q3=>?_,fun k k' o1 o2 p1 p2 b AV q1 q2 q3 q4 q5 q6=>?_,fun b hb=>⟨yN (HR.nlt b hb).1 g3.upd.size,(HR.nlt b hb).2⟩,g1.gi⟩,Zz dO OS _ g2,⟨g3.upd.mono fun b _ hb=>Gs b hb,grow⟩,pl⟩,g5⟩⟩
  ·rw [Wu,Fl];simp [HR.len,l1]
  ·rcases Fy hk with ⟨a1,a2,a3,a4⟩ | ⟨i,o,a1,a2,a3,a4⟩
   ·obtain ⟨p,hp,hr⟩:=HR.obj k o' a3;refine ⟨p,a4.trans hp,hr.out O g3.upd (fun b hb=>.inr (Gs b hb)) fun b _ hf hs=>?_⟩;exact foreign (by rw [Fq];exact .inr ⟨k,o',p,a2,a3,hp,hf⟩) hs
   ·obtain ⟨p,hp,hr⟩:=g1.obj i o a1;exact ⟨p,a3.trans hp,jf dO OS a2 hr⟩
  ·rcases Fy q1 with ⟨a1,a2,a3,a4⟩ | ⟨i,o,a1,a2,a3,a4⟩
   ·have hp:=a4.symm.trans q2;obtain ⟨c1,c2,c,t,z,c3⟩:=HR.cel k o' p b a3 hp q3;refine ⟨c1,c2,c,t,z,(g3.upd.block b (yE.1 c3).1 fun hx=>?_).trans c3⟩;exact foreign (by rw [Fq];exact .inr ⟨k,o',p,a2,a3,hp,q3⟩) hx
   ·obtain ⟨c1,c2,c3⟩:=g1.cel i o p b a1 (a3.symm.trans q2) q3;exact ⟨c1,fun hb=>c2 (by rw [Fq];exact .inl hb),c3⟩
  ·rcases Fy q1 with ⟨a1,a2,a3,a4⟩ | ⟨i,o,a1,a2,a3,a4⟩
   ·rcases Fy q2 with ⟨c1,c2,c3,c4⟩ | ⟨i',o',c1,c2,c3,c4⟩
    ·exact HR.dis k k' o1 o2 p1 p2 b AV a3 c3 (a4.symm.trans q3) (c4.symm.trans q4) q5 q6
    ·exact (g1.cel i' o' p2 b c1 (c3.symm.trans q4) q6).2.1 (by rw [Fq];exact .inr ⟨k,o1,p1,a2,a3,a4.symm.trans q3,q5⟩)
   ·rcases Fy q2 with ⟨c1,c2,c3,c4⟩ | ⟨i',o',c1,c2,c3,c4⟩
    ·exact (g1.cel i o p1 b a1 (a3.symm.trans q3) q5).2.1 (by rw [Fq];exact .inr ⟨k',o2,p2,c2,c3,c4.symm.trans q4,q6⟩)
    ·refine g1.dis i i' o o' p1 p2 b ?_ a1 c1 (a3.symm.trans q3) (c3.symm.trans q4) q5 q6;rintro rfl;exact AV (a4.trans c4.symm)
def Kc (σ:List Nat) (n l l':Nat):Bool:=decide σ.Nodup&&σ.all (fun k=>decide (k<n))&&decide (σ.length=l)&&decide (l<=l')
theorem ES.embedB {f:Nat} {ds:List DV} {h:DH} {d:DV} {h':DH} {ext:Bool} (EC:ES P Γ f ds h d h' ext) (σ:List Nat) (H:DH) (hb:Kc σ H.length h.length h'.length=true) (hh:(σ.map fun k=>H.getD k none)=h.map (Ca σ H.length))
 {Df:List DV} {d1:DV} {H1:DH} (e:(ds.map (up σ H.length),up σ H.length d,Cf H σ h')=(Df,d1,H1)):ES P Γ f Df H d1 H1 ext:=by
 simp only [Kc,yG,yg,yL] at hb;cases e;exact EC.embed σ H hb.1.1.1 (fun k hk=>hb.1.1.2 k hk) hb.1.2 hb.2 hh
end
end Go.Proofs.YtekkngkphejfcaaGreatDoor
namespace Go.Proofs.YtekkngkphejfcaaGreatDoor
abbrev yc:=@List.drop_eq_getElem_cons
abbrev zW:=@Nat.le_of_ble_eq_true
abbrev zp:=@of_decide_eq_true
end Go.Proofs.YtekkngkphejfcaaGreatDoor
namespace Go.Proofs.YtekkngkphejfcaaGreatDoor
open Go.RowKit
section
variable {P:Program} {Γ:Au}
theorem BK.foreign {N1 N2 G:Nat -> Prop} {h:DH} {ρ:List AI} {A B:World} (H:BK P Γ N1 h ρ A) (hu:AM G A B) (hG: ∀ b,G b -> N1 b/\ Γ.ng<=b) (hN: ∀ b,N2 b -> N1 b∨A.heap.size<=b) (hb: ∀ b,N2 b -> b<B.heap.size/\ Γ.ng<=b):BK P Γ N2 h ρ B:=by
 have O:BM (MS N1 h ρ) A ρ (MS N2 h ρ) B ρ:=⟨fun b AK hm _=>hu.block b AK fun hx=>hm (.inl (hG b hx).1),fun b hb=>hb.elim (fun h=>(hN b h).imp .inl id) (fun h=>.inl (.inr h)),fun _ _ h=>h⟩;refine ⟨H.len,fun k o hk=>?_,fun k o p b h1 h2 h3=>?_,H.dis,hb,Γ.st _ _ H.gi (hu.mono fun i _ hx=>(hG i hx).2)⟩
 ·obtain ⟨p,hp,hr⟩:=H.obj k o hk;exact ⟨p,hp,hr.out O hu (fun b hb=>.inl (hG b hb).1) fun b _ hf hs=>(H.cel k o p b hk hp hf).2.1 (hG b hs).1⟩
 ·obtain ⟨c1,c2,c,t,z,c3⟩:=H.cel k o p b h1 h2 h3;have AK:=(yE.1 c3).1;exact ⟨c1,fun hn=>(hN b hn).elim c2 (by omega),c,t,z,(hu.block b AK fun hx=>c2 (hG b hx).1).trans c3⟩
theorem BM.foreign {N1 N2 G:Nat -> Prop} {h:DH} {ρ:List AI} {A B:World} (hu:AM G A B) (hG: ∀ b,G b -> N1 b/\ Γ.ng<=b) (hN: ∀ b,N2 b -> N1 b∨A.heap.size<=b):BM (MS N1 h ρ) A ρ (MS N2 h ρ) B ρ:=
 ⟨fun b AK hm _=>hu.block b AK fun hx=>hm (.inl (hG b hx).1),fun b hb=>hb.elim (fun h=>(hN b h).imp .inl id) (fun h=>.inl (.inr h)),fun _ _ h=>h⟩
def Iv (fr:List DV) (ps:List Tmp) (x:List Value):List DV:=(ps.zip x).foldl (fun t q=>t.set q.1 (E1 q.2)) fr
theorem bD {M:Nat -> Prop} {w:World} {ρ:List AI}: ∀ (l:List (Tmp×Value)) {fr:List DV} {t:Array Value},B1 M w ρ fr t -> B1 M w ρ (l.foldl (fun t q=>t.set q.1 (E1 q.2)) fr) (l.foldl (fun t (q:Tmp×Value)=>t.setIfInBounds q.1 q.2) t)
 | [],_,_,h=>h
 | q::l,_,_,h=>bD l (h.set q.1 (Ph _))
def F0 (K:Nat):DV -> Bool
 | .ref k _=>decide (k<K)
 | .msl k _ _ _=>decide (k<K)
 | .mse k _ _ _=>decide (k<K)
 | .mri k _=>decide (k<K)
 | .mp k _ _ _=>decide (k<K)
 | .it k=>decide (k<K)
 | .agg m f=>(List.range m).all fun j=>F0 K (f j)
 | .tup m f=>(List.range m).all fun j=>F0 K (f j)
 | .fn _ m f=>(List.range m).all fun j=>F0 K (f j)
 | _=>true
theorem Nf {α:Type} {l:List α} {K k:Nat} {x:α} (hk:k<K) (h:l[k]? =some x):(l.take K)[k]? =some x:=by rw [List.getElem?_take,yC hk];exact h
theorem AJ.take {M:Nat -> Prop} {w:World} {K:Nat}: ∀ (d:DV) {ρ:List AI} {v:Value},F0 K d=true -> AJ M w d ρ v -> AJ M w d (ρ.take K) v:=by
 intro d
 induction d with
 | ref k j=>rintro ρ v hb ⟨p,h,e⟩;exact ⟨p,Nf (zp hb) h,e⟩
 | msl k m off n=>rintro ρ v hb ⟨p,cap,h,e⟩;exact ⟨p,cap,Nf (zp hb) h,e⟩
 | mp k m i j=>rintro ρ v hb ⟨p,h,e⟩;exact ⟨p,Nf (zp hb) h,e⟩
 | it k=>rintro ρ v hb ⟨p,h,e⟩;exact ⟨p,Nf (zp hb) h,e⟩
 | agg m f ih=>
  rintro ρ v hb ⟨cs,e,hs,h⟩;exact ⟨cs,e,hs,fun j hj=>let ⟨u,h1,h2⟩:=h j hj;⟨u,h1,ih j (yL.1 hb j (yP.2 hj)) h2⟩⟩
 | tup m f ih=>
  rintro ρ v hb ⟨cs,e,hs,h⟩;exact ⟨cs,e,hs,fun j hj=>let ⟨u,h1,h2⟩:=h j hj;⟨u,h1,ih j (yL.1 hb j (yP.2 hj)) h2⟩⟩
 | fn g m f ih=>
  rintro ρ v hb ⟨cs,e,hs,h⟩;exact ⟨cs,e,hs,fun j hj=>let ⟨u,h1,h2⟩:=h j hj;⟨u,h1,ih j (yL.1 hb j (yP.2 hj)) h2⟩⟩
 | yl l=>rintro ρ v _ h;exact h
 | cst u=>rintro ρ v _ h;exact h
 | mse k m off n=>rintro ρ v hb ⟨p,a,cap,h,e⟩;exact ⟨p,a,cap,Nf (zp hb) h,e⟩
 | mri k i=>rintro ρ v hb ⟨p,vs,h,e⟩;exact ⟨p,vs,Nf (zp hb) h,e⟩
 | any=>rintro ρ v _ h;trivial
 | nils=>rintro ρ v _ h;exact h
 | int k n=>rintro ρ v _ h;exact h
 | bool b=>rintro ρ v _ h;exact h
 | str s=>rintro ρ v _ h;exact h
 | ints l=>rintro ρ v _ h;exact h
 | bools l=>rintro ρ v _ h;exact h
 | sl m n f=>rintro ρ v _ h;exact h
 | fp m f=>rintro ρ v _ h;exact h
theorem B1.take {M:Nat -> Prop} {w:World} {K:Nat} {ρ:List AI} {fr:List DV} {t:Array Value} (h:B1 M w ρ fr t) (hb:fr.all (F0 K)=true):B1 M w (ρ.take K) fr t:=by
 refine ⟨h.1,fun i hi=>AJ.take _ ?_ (h.2 i hi)⟩;have:fr.getD i .any∈fr:=by simp [u8,hi]
 exact yL.1 hb _ this
structure RI (K:Nat) (P:Program) (Γ:Au) (N:Nat -> Prop) (h0:DH) (ρ0:List AI) (w0:World) (G:Nat -> Prop) (W:World) (h:DH) (ρ:List AI):Prop where
 hr:BK P Γ (fun b=>N b∨G b) h ρ W
 upd:AM (MO h0 ρ0) w0 W
 grow: ∀ b,MO h ρ b -> MO h0 ρ0 b∨w0.heap.size<=b
 g: ∀ b,G b -> Γ.ng<=b/\ (MO h0 ρ0 b∨w0.heap.size<=b)
 kept:D0 K ρ0 ρ
theorem RI.stable {K:Nat} {N:Nat -> Prop} {h0:DH} {ρ0:List AI} {w0:World} (F7:Γ.ng<=w0.heap.size) {G G':Nat -> Prop} {A B:World} {h:DH} {ρ:List AI} (R:RI K P Γ N h0 ρ0 w0 G A h ρ) (hu:AM G A B) (hg: ∀ k,G' k -> G k∨A.heap.size<=k) (hb: ∀ k,G' k -> k<B.heap.size):RI K P Γ N h0 ρ0 w0 G' B h ρ:=by
 have hs:w0.heap.size<=A.heap.size:=R.upd.size;refine ⟨R.hr.foreign hu (fun b hx=>⟨.inr hx,(R.g b hx).1⟩) (fun b hx=>?_) (fun b hx=>?_),R.upd.comp hu fun i hi hx=>(R.g i hx).2.resolve_right (by omega),R.grow,fun b hx=>?_,R.kept⟩
 ·rcases hx with hx | hx
  ·exact .inl (.inl hx)
  ·exact (hg b hx).imp .inr id
 ·rcases hx with hx | hx
  ·exact ⟨yN (R.hr.nlt b (.inl hx)).1 hu.size,(R.hr.nlt b (.inl hx)).2⟩
  ·exact ⟨hb b hx,(hg b hx).elim (fun h=>(R.g b h).1) (fun h=>by omega)⟩
 ·rcases hg b hx with hx | hx
  ·exact R.g b hx
  ·exact ⟨by omega,.inr (by omega)⟩
theorem RI.outl {K:Nat} {N:Nat -> Prop} {h0:DH} {ρ0:List AI} {w0:World} {G:Nat -> Prop} {W:World} {h:DH} {ρ:List AI} (R:RI K P Γ N h0 ρ0 w0 G W h ρ):BM (MS N h0 ρ0) w0 (ρ0.take K) (MS (fun b=>N b∨G b) h ρ) W ρ:=
 ⟨fun b AK hm _=>R.upd.block b AK fun hx=>hm (.inr hx),fun b hb=>by
  rcases hb with (hb | hb) | hb
  ·exact .inl (.inl hb)
  ·exact (R.g b hb).2.imp .inr id
  ·exact (R.grow b hb).imp .inr id,fun k p hk=>by
  rw [List.getElem?_take] at hk
  by_cases e:k<K
  ·rw [yC e] at hk;exact R.kept k p e hk
  ·rw [yM e] at hk;cases hk⟩
def JS:Exit -> Option Code
 | .ret=>some .ret
 | .exit id=>some (.exit id)
 | _=>none
def ZU (L:Nat) (J:DH -> Prop) (Jx:Exit -> DH -> Prop) (e:Exit) (S:St):Prop:=∃ S3,BF L S S3/\ ((e= .normal/\ J S3.h)∨((JS e).isSome=true/\ Jx e S3.h))
def i8 (P:Program) (Γ:Au) (fr:List DV) (ps:List Tmp) (assign body:Code) (L:Nat) (J:Nat -> DH -> Prop) (Jx:Exit -> DH -> Prop) (encs:List (Array Value)):Prop:=
 ∀ (l B:Nat) (Y:BS P Γ L) (i:Nat) (x:Array Value) (h:DH),encs[i]? =some x -> J i h ->
  Tr P Γ (Fence.wide.inRound l) (some B) L Y assign ⟨Iv fr ps x.toList,h⟩ (Oa (fun S' Y'=>Y'=Y/\ ∀ Y2:BS P Γ L,Tr P Γ (Fence.wide.inRound l) (some B) L Y2 body S' (stay Y2 (ZU L (J (i+1)) Jx))) (fun _ _ _=>False))
theorem b7 {N:Nat -> Prop} {S:St} {ρ:List AI} {a:Act} {w:World} (R:AX P Γ N S ρ a w) {ps:Array Tmp} {assign body:Code} {encs:List (Array Value)} {J:Nat -> DH -> Prop} {Jx:Exit -> DH -> Prop} {Rd:Nat -> Prop} {l KK:Nat} (Du:S.fr.all (F0 KK)=true)
 (Ih: ∀ b,Rd b -> ¬ MS N S.h ρ b/\ b<w.heap.size) (DF:i8 P Γ S.fr ps.toList assign body KK J Jx encs)
 (G:Nat -> Prop) (i:Nat) (x:Array Value) (W:World) (hx:encs[i]? =some x) (hI: ∃ h ρ',J i h/\ RI KK P Γ N S.h ρ w G W h ρ') (hl: ∃ r,W.heap[l]? =some (.loop r)) (EO:G l):
 assign.wpIn (Fence.wide.inRound l) 0 P (Exit.then (fun a₁ W₁=>∃ K:(Nat -> Prop) -> World -> Prop,EX K/\ AM (fun k=>¬ (G k∨Rd k)) W W₁/\ K G W₁/\ ∀ W₂,K G W₂ -> (∃ r,W₂.heap[l]? =some (.loop r)) ->
  body.wpIn (Fence.wide.inRound l) 0 P (SL (fun k=>G k∨Rd k) (fun W'=>∃ h ρ',J (i+1) h/\ RI KK P Γ N S.h ρ w G W' h ρ') (fun c W'=>∃ e,JS e=some c/\ ∃ h ρ',Jx e h/\ RI KK P Γ N S.h ρ w G W' h ρ') W₂) a₁ W₂) (fun _ _ _=>False)) { tmps:=(ps.zip x).foldl (fun t (p,v)=>t.setIfInBounds p v) a.tmps,defers:=[] } W:=by
 obtain ⟨h,ρ1,hJ,hR⟩:=hI;have F7:Γ.ng<=w.heap.size:=Γ.lo _ R.hr.gi
 have UV:B1 (MS (fun b=>N b∨G b) h ρ1) W ρ1 (Iv S.fr ps.toList x.toList) ((ps.zip x).foldl (fun t (p,v)=>t.setIfInBounds p v) a.tmps):=by
  have:=bD (ps.zip x).toList ((R.fr.take Du).out hR.outl);rw [Array.toList_zip] at this;rw [←Array.foldl_toList,Array.toList_zip];exact this
 have off: ∀ {G:Nat -> Prop} {W:World} {h:DH} {ρ1:List AI},RI KK P Γ N S.h ρ w G W h ρ1 -> ∀ b,MO h ρ1 b -> ¬ (G b∨Rd b):=by
  rintro G W h ρ1 hR b hm (hg | hd)
  ·obtain ⟨k,o,p,q1,q2,q3⟩:=hm;exact (hR.hr.cel k o p b q1 q2 q3).2.1 (.inr hg)
  ·rcases hR.grow b hm with hm | hm
   ·exact (Ih b hd).1 (.inr hm)
   ·have:=(Ih b hd).2;omega
 have step: ∀ {G:Nat -> Prop} {W W':World} {h h':DH} {ρ1 ρ2:List AI},RI KK P Γ N S.h ρ w G W h ρ1 -> BK P Γ (fun b=>N b∨G b) h' ρ2 W' -> A8 h ρ1 W h' ρ2 W' -> D0 KK ρ1 ρ2 -> RI KK P Γ N S.h ρ w G W' h' ρ2:=by
  intro G W W' h h' ρ1 ρ2 hR Cm st hk;have hs:=hR.upd.size;exact ⟨Cm,hR.upd.comp st.upd fun b hb hm=>(hR.grow b hm).resolve_right (by omega),fun b hb=>(st.grow b hb).elim (hR.grow b) fun h=>.inr (by omega),hR.g,hR.kept.trans hk⟩
 have bd:Bd (Fence.wide.inRound l) (some W.heap.size) W:=⟨fun b e=>by cases e;exact yf _,fun l' e=>by cases e;exact hl⟩;refine zAJ (DF l W.heap.size (Oh P Γ KK (fun b=>N b∨G b) h ρ1 W) i x h hx hJ _ ρ1 _ W ⟨hR.hr,UV⟩ ⟨rfl,A8.refl _ _ _,D0.refl _ _⟩ trivial bd) ?_;rintro e a1 W1 ⟨S',ρ2,N2,Y2,h1,h2,h3,h4,_⟩;cases e with
 | normal=>
  obtain ⟨rfl,h1⟩:=h1;obtain ⟨rfl,h3,h5⟩:=h3;refine ⟨fun G' W'=>RI KK P Γ N S.h ρ w G' W' S'.h ρ2/\ B1 (MS (fun b=>N b∨G' b) S'.h ρ2) W' ρ2 S'.fr a1.tmps/\ Dz W.heap.size a1.defers W'/\ W1.heap.size<=W'.heap.size/\ (∀ b,G' b -> b<W.heap.size∨W1.heap.size<=b)/\ (∀ d∈a1.defers,∀ D,d.target= .collected D -> D<W1.heap.size),?_,h3.upd.mono fun b _ hm=>off hR b hm,⟨step hR h2.hr h3 h5,h2.fr,h4,yf _,fun b hg=>.inl (hR.hr.nlt b (.inr hg)).1,fun d hd D ht=>Dz.lt h4 hd ht⟩,?_⟩
  ·rintro G1 G2 A C ⟨q1,q2,q3,q4,q5,q6⟩ hu hg hb;have ue:=q1.stable F7 hu hg hb;refine ⟨ue,q2.out (BM.foreign (Γ:=Γ) hu (fun b hx=>⟨.inr hx,(q1.g b hx).1⟩) fun b hx=>?_),?_,yO q4 hu.size,fun b hx=>(hg b hx).elim (q5 b) (fun h=>.inr (by omega)),q6⟩
   ·rcases hx with hx | hx
    ·exact .inl (.inl hx)
    ·exact (hg b hx).imp .inr id
   ·have go: ∀ {ds:List Deferred},Dz W.heap.size ds A -> (∀ d∈ds,∀ D,d.target= .collected D -> D<W1.heap.size) -> Dz W.heap.size ds C:=by
     intro ds
     induction ds with
     | nil=>intros;trivial
     | cons d ds ih=>
      rintro ⟨D,r1,r2,r3,r4,r5⟩ AK;have hD:D<W1.heap.size:=AK d (by simp) D (by rw [r1]);refine ⟨D,r1,r2,(hu.block D (yE.1 r3).1 fun hx=>?_).trans r3,r4,ih r5 fun d' KM=>AK d' (by simp [KM])⟩;rcases q5 D hx with h | h <;> omega
    exact go q3 q6
  ·rintro W2 ⟨q1,q2,q3,q4,q5,q6⟩ CU;have xG:Bd (Fence.wide.inRound l) (some W.heap.size) W2:=⟨fun b e=>by cases e;exact yO h3.upd.size q4,fun l' e=>by cases e;exact CU⟩;refine zAJ (h1 (Oh P Γ KK (fun b=>N b∨G b) S'.h ρ2 W2) _ ρ2 a1 W2 ⟨q1.hr,q2⟩ ⟨rfl,A8.refl _ _ _,D0.refl _ _⟩ q3 xG) ?_;rintro e a3 W3 ⟨S3,ρ3,N3,Y3,r1,r2,r3,r4,_⟩
   have out: ∀ e,(Oh P Γ KK (fun b=>N b∨G b) S'.h ρ2 W2).I N3 S3.h ρ3 W3 -> ZU KK (J (i+1)) Jx e S3 -> AM (fun k=>¬ (G k∨Rd k)) W2 W3/\ ((e= .normal/\ ∃ h ρ',J (i+1) h/\ RI KK P Γ N S.h ρ w G W3 h ρ')∨((JS e).isSome=true/\ ∃ h ρ',Jx e h/\ RI KK P Γ N S.h ρ w G W3 h ρ')):=by
    rintro e r0 ⟨S4,CW,um⟩;obtain ⟨rfl,r3,r5⟩:=r0;obtain ⟨ρ4,R4,s4,k4⟩:=CW P Γ _ ρ3 a3 W3 r2;have eL:=step q1 R4.hr (r3.trans s4) (r5.trans k4);exact ⟨r3.upd.mono fun b _ hm=>off q1 b hm,um.imp (fun ⟨x,y⟩=>⟨x,S4.h,ρ4,y,eL⟩) (fun ⟨x,y⟩=>⟨x,S4.h,ρ4,y,eL⟩)⟩
   cases e with
   | normal=>
    obtain ⟨rfl,r1⟩:=r1;obtain ⟨o1,o2⟩:=out _ r3 r1;rcases o2 with ⟨_,o2⟩ | ⟨o2,_⟩
    ·exact ⟨o1,o2⟩
    ·cases o2
   | ret=>
    obtain ⟨rfl,r1⟩:=r1;obtain ⟨o1,o2⟩:=out _ r3 r1;rcases o2 with ⟨o2,_⟩ | ⟨_,o2⟩
    ·cases o2
    ·exact ⟨o1,.ret,rfl,o2⟩
   | exit id=>
    obtain ⟨rfl,r1⟩:=r1;obtain ⟨o1,o2⟩:=out _ r3 r1;rcases o2 with ⟨o2,_⟩ | ⟨_,o2⟩
    ·cases o2
    ·exact ⟨o1,.exit id,rfl,o2⟩
   | goto t=>
    obtain ⟨rfl,r1⟩:=r1;obtain ⟨o1,o2⟩:=out _ r3 r1;rcases o2 with ⟨o2,_⟩ | ⟨o2,_⟩ <;> cases o2
   | panic c=>exact r1.elim
   | outgrown=>exact r1.elim
 | ret=>exact h1.elim
 | exit id=>exact h1.elim
 | goto t=>exact h1.elim
 | panic c=>exact h1.elim
 | outgrown=>exact h1.elim
theorem Tr.range {F:Fence} (Ho:F=Fence.wide∨∃ l,F=Fence.wide.inRound l) {B L:Nat} {Y:BS P Γ L} {S:St} {g:Operand} {ps:Array Tmp} {assign body:Code} {Q:QY P Γ L} {k:Nat} {encs:List (Array Value)} (J:Nat -> DH -> Prop) (Jx:Exit -> DH -> Prop)
 (hg:AY S.fr g= .it k) (hk:S.h[k]? =some (some (.iter encs))) (Db: ∀ x∈encs,x.size=ps.size) {KK:Nat} (hL:L<=KK) (Du:S.fr.all (F0 KK)=true) (h0:J 0 (S.h.set k none))
 (DF:i8 P Γ S.fr ps.toList assign body KK J Jx encs) (Dv: ∀ h,J encs.length h -> Q .normal ⟨S.fr,h⟩ Y) (NM: ∀ e h,(JS e).isSome=true -> Jx e h -> Q e ⟨S.fr,h⟩ Y):Tr P Γ F (some B) L Y (.rangeFunc g ps assign body) S Q:=fun N ρ a w R y m b=>by
 have hx:=Bj R g;rw [hg] at hx;obtain ⟨p,hp,hv⟩:=hx;obtain ⟨p',A6,gf,lb,Rd,⟨e1,e2⟩,q2,q3,q4⟩:=R.hr.obj k _ hk;have ep:p'=p:=yK (A6.symm.trans hp);subst ep;have fJ:a.eval g= .func (.func gf) #[] lb:=hv.trans e1;have F7:Γ.ng<=w.heap.size:=Γ.lo _ R.hr.gi;have fg: ∀ b,p'.foot b -> MO S.h ρ b:=fun b hb=>⟨k,_,p',hk,hp,hb⟩
 have fh: ∃ h ρ',J 0 h/\ RI KK P Γ N S.h ρ w p'.foot w h ρ':=by
  refine ⟨S.h.set k none,ρ,h0,?_,AM.refl _ _,fun b hb=>.inl (MO.kill hb),fun b hb=>⟨(R.hr.cel k _ p' b hk hp hb).1,.inl (fg b hb)⟩,D0.refl _ _⟩;have H1:BK P Γ N (S.h.set k none) ρ w:=R.hr.kill k
  have KD: ∀ b,MS (fun b=>N b∨p'.foot b) (S.h.set k none) ρ b -> MS N S.h ρ b:=fun b hb=>by
   rcases hb with (hb | hb) | hb
   ·exact .inl hb
   ·exact .inr (fg b hb)
   ·exact .inr (MO.kill hb)
  refine ⟨H1.len,fun i o hi=>?_,fun i o p2 b g1 g2 g3=>?_,H1.dis,fun b hb=>hb.elim (R.hr.nlt b) fun h=>⟨q4 b h,(R.hr.cel k _ p' b hk hp h).1⟩,R.hr.gi⟩
  ·obtain ⟨AV,A7⟩:=FT hi;obtain ⟨p2,QO,hr⟩:=R.hr.obj i o A7;exact ⟨p2,QO,hr.out (C0 KD ρ) (S:=fun _=>False) (AM.refl _ _) (fun _ h=>h.elim) fun _ _ _ h=>h⟩
  ·obtain ⟨AV,A7⟩:=FT g1;obtain ⟨c1,c2,c3⟩:=R.hr.cel i o p2 b A7 g2 g3;exact ⟨c1,fun hb=>hb.elim c2 fun hb=>R.hr.dis i k o _ p2 p' b AV A7 hk g2 hp g3 hb,c3⟩
 have E4: ∀ i,EX (fun G W=>∃ h ρ',J i h/\ RI KK P Γ N S.h ρ w G W h ρ'):=fun i G G' A C ⟨h,ρ',h1,h2⟩ hu YD hb=>⟨h,ρ',h1,h2.stable F7 hu YD hb⟩
 have fin: ∀ {G:Nat -> Prop} {W:World} {h:DH} {ρ':List AI},RI KK P Γ N S.h ρ w G W h ρ' -> BK P Γ N h ρ' W:=fun {G W h ρ'} hR=>
  hR.hr.foreign (G:=fun _=>False) (AM.refl _ _) (fun _ h=>h.elim) (fun b hb=>.inl (.inl hb)) fun b hb=>hR.hr.nlt b (.inl hb)
 have Nk: ∀ {G:Nat -> Prop} {W:World} {h:DH} {ρ':List AI},RI KK P Γ N S.h ρ w G W h ρ' -> B1 (MS N h ρ') W ρ' S.fr a.tmps:=fun {G W h ρ'} hR=>
  ((R.fr.take Du).out hR.outl).out (C0 (fun b hb=>hb.imp .inl id) ρ')
 have FE: ∀ {G:Nat -> Prop} {W:World} {h:DH} {ρ':List AI},RI KK P Γ N S.h ρ w G W h ρ' -> A8 S.h ρ w h ρ' W:=fun hR=>⟨hR.upd,hR.grow⟩
 have eJ: ∀ c,EX (fun G W=>∃ e,JS e=some c/\ ∃ h ρ',Jx e h/\ RI KK P Γ N S.h ρ w G W h ρ'):=fun c G G' A C ⟨e,he,h,ρ',h1,h2⟩ hu YD hb=>⟨e,he,h,ρ',h1,h2.stable F7 hu YD hb⟩
 have kp: ∀ {G:Nat -> Prop} {W:World} {h:DH} {ρ':List AI},RI KK P Γ N S.h ρ w G W h ρ' -> D0 L ρ ρ':=fun hR k p hk hp=>hR.kept k p (yN hk hL) hp
 rcases Ho with rfl | ⟨l0,rfl⟩
 ·have mk: ∀ {D:Nat} {G:Nat -> Prop} {W:World} {h:DH} {ρ':List AI},RI KK P Γ N S.h ρ w G W h ρ' -> W.heap[D]? =some (.deferred (some [])) -> w.heap.size<=D -> Dz B ({ target:=.collected D,args:=#[] }::a.defers) W:=fun {D G W h ρ'} hR hD NK=>
   ⟨D,rfl,yO (b.le _ rfl) NK,hD,fun d' KM ht=>by have:=Dz.lt m KM ht;omega,Pq R.hr (FE hR) m⟩
  refine jK fJ e2 q2 (fun b hb=>q4 b hb) (fun b hb=>(q3 b hb).2) Db _ _ E4 eJ fh (fun l G i x W hx hI hl EO=>b7 R Du q3 DF G i x W hx hI hl EO) ?_ ?_
  ·rintro D G W ⟨h,ρ',h1,hR⟩ hD uq NK;exact ⟨⟨S.fr,h⟩,ρ',N,Y,Dv h h1,⟨fin hR,Nk hR⟩,Y.st y R.hr (fin hR) (FE hR) (kp hR),mk hR hD NK,b.step R.hr (FE hR)⟩
  ·rintro D c G W ⟨e,he,h,ρ',h1,hR⟩ hD uq NK;have hq:=NM e h (by rw [he];rfl) h1;cases e with
   | ret=>cases he;exact wpIn_ret ⟨⟨S.fr,h⟩,ρ',N,Y,hq,⟨fin hR,Nk hR⟩,Y.st y R.hr (fin hR) (FE hR) (kp hR),mk hR hD NK,b.step R.hr (FE hR)⟩
   | exit id=>cases he;exact wpIn_exit ⟨⟨S.fr,h⟩,ρ',N,Y,hq,⟨fin hR,Nk hR⟩,Y.st y R.hr (fin hR) (FE hR) (kp hR),mk hR hD NK,b.step R.hr (FE hR)⟩
   | normal=>cases he
   | goto t=>cases he
   | panic c=>cases he
   | outgrown=>cases he
 ·refine jL fJ e2 (b.rd l0 rfl) q2 (fun b hb=>q4 b hb) (fun b hb=>(q3 b hb).2) Db _ _ E4 eJ fh (fun l G i x W hx hI hl EO=>b7 R Du q3 DF G i x W hx hI hl EO) ?_ ?_
  ·rintro G W ⟨h,ρ',h1,hR⟩;exact ⟨⟨S.fr,h⟩,ρ',N,Y,Dv h h1,⟨fin hR,Nk hR⟩,Y.st y R.hr (fin hR) (FE hR) (kp hR),Pq R.hr (FE hR) m,b.step R.hr (FE hR)⟩
  ·rintro c G W ⟨e,he,h,ρ',h1,hR⟩;have hq:=NM e h (by rw [he];rfl) h1;cases e with
   | ret=>cases he;exact wpIn_ret ⟨⟨S.fr,h⟩,ρ',N,Y,hq,⟨fin hR,Nk hR⟩,Y.st y R.hr (fin hR) (FE hR) (kp hR),Pq R.hr (FE hR) m,b.step R.hr (FE hR)⟩
   | exit id=>cases he;exact wpIn_exit ⟨⟨S.fr,h⟩,ρ',N,Y,hq,⟨fin hR,Nk hR⟩,Y.st y R.hr (fin hR) (FE hR) (kp hR),Pq R.hr (FE hR) m,b.step R.hr (FE hR)⟩
   | normal=>cases he
   | goto t=>cases he
   | panic c=>cases he
   | outgrown=>cases he
def ED {α σ:Type} (f:α -> σ -> Option (σ×Nat)):List α -> σ -> Option (σ×Nat)
 | [],s=>some (s,0)
 | x::l,s=>(f x s).bind fun r=>bif r.2==0 then ED f l r.1 else some r
def Bz {α σ:Type} (f:α -> σ -> Option σ):List α -> σ -> Option σ
 | [],s=>some s
 | x::l,s=>(f x s).bind (Bz f l)
theorem gF {α σ:Type} (f:α -> σ -> Option σ): ∀ (l:List α) (s:σ),ED (fun x s=>(f x s).map fun s'=>(s',0)) l s=(Bz f l s).map fun s'=>(s',0)
 | [],s=>rfl
 | x::l,s=>by
  simp only [ED,Bz];cases f x s with
  | none=>rfl
  | some s'=>exact gF f l s'
def C8 (L:Nat) (ex:List Exit) (c:Nat) (h':DH) (e:Exit) (S:St):Prop:=(Exit.normal::ex)[c]? =some e/\ ∃ S3,BF L S S3/\ S3.h=h'
def Fs (P:Program) (Γ:Au) (F:Fence) (B:Option Nat) (L:Nat) (N:BS P Γ L) (Q:Exit -> St -> Prop) (assign body:Code) (S:St):Prop:=
 Tr P Γ F B L N assign S (Oa (fun S' Y'=>Y'=N/\ ∀ N2:BS P Γ L,BJ P Γ F B L N2 Q [.code body] S') (fun _ _ _=>False))
theorem Fs.go {F:Fence} {B:Option Nat} {L:Nat} {N:BS P Γ L} {Q:Exit -> St -> Prop} (hF:Dj F P) (hm:P.follows .mixedOrders=true) {assign body:Code} {S:St} (Am:BU) (n:Nat) (o:Bt) (live σ:List Nat) (fr:List DV) (h':DH) (vs:List Prop)
 (h:(Bo P Γ Am n [.code assign] S o).map (Pe live σ L)=some (.at [],fr,h',vs,[],[],true)) (hv:Bc vs) (hk: ∀ N2:BS P Γ L,BJ P Γ F B L N2 Q [.code body] ⟨fr,h'⟩):Fs P Γ F B L N Q assign body S:=by
 obtain ⟨S',_,h1,hs⟩:=oX h;have T:=Em (F:=F) (B:=B) (L:=L) (Y:=N) (Q:=fun e S2 Y2=>e= .normal/\ Y2=N/\ ∀ N2:BS P Γ L,BJ P Γ F B L N2 Q [.code body] S2) hF hm n [.code assign] S o _ _ _ _ h1 hv ⟨rfl,rfl,fun N2=>BJ.le hs rfl (hk N2)⟩;refine Tr.mono (show Tr P Γ F B L N assign S _ from T) fun e S2 Y2 hq=>?_
 cases e with
 | normal=>exact hq.2
 | ret=>exact absurd hq.1 (by simp)
 | exit id=>exact absurd hq.1 (by simp)
 | goto t=>exact absurd hq.1 (by simp)
 | panic c=>exact absurd hq.1 (by simp)
 | outgrown=>exact absurd hq.1 (by simp)
theorem BJ.rangeFold {F:Fence} (Ho:F=Fence.wide∨∃ l,F=Fence.wide.inRound l) {B L:Nat} {Y:BS P Γ L} {Q:QY P Γ L} {S:St} {g:Operand} {ps:Array Tmp} {assign body:Code} {k:List KI} {kk:Nat} {α σ:Type} (ex:List Exit) (Ig:(ex.all fun e=>(JS e).isSome)=true) (enc:α -> Array Value) (l:List α) (H:σ -> DH) (f:α -> σ -> Option (σ×Nat)) {s0:σ} {rE:σ×Nat} (hf:ED f l s0=some rE)
 (hg:AY S.fr g= .it kk) (hk:S.h[kk]? =some (some (.iter (l.map enc)))) (Db: ∀ x,(enc x).size=ps.size) {K:Nat} (hL:L<=K) (Du:S.fr.all (F0 K)=true) (h0:S.h.set kk none=H s0)
 (DF: ∀ (l B:Nat) (N:BS P Γ K) (x:α) (s:σ) (r:σ×Nat),f x s=some r -> Fs P Γ (Fence.wide.inRound l) (some B) K N (C8 K ex r.2 (H r.1)) assign body ⟨Iv S.fr ps.toList (enc x).toList,H s⟩)
 (Dv: ∀ e,(Exit.normal::ex)[rE.2]? =some e -> DJ P Γ F (some B) L Q k e ⟨S.fr,H rE.1⟩ Y):Aq P Γ F (some B) L Y Q (.code (.rangeFunc g ps assign body)::k) S:=by
 refine Tr.range (Q:=DJ P Γ F (some B) L Q k) (KK:=K) Ho (fun i h=>∃ s,ED f (l.drop i) s=some rE/\ h=H s) (fun e h=>(Exit.normal::ex)[rE.2]? =some e/\ h=H rE.1) hg hk (fun x hx=>?_) hL Du ⟨s0,hf,h0⟩ ?_ ?_ ?_
 ·obtain ⟨y,_,rfl⟩:=zK.1 hx;exact Db y
 ·rintro l' B' N' i x h hx ⟨s,hs,rfl⟩;rw [yS] at hx;cases hy:l[i]? with
  | none=>rw [hy] at hx;cases hx
  | some y=>
   rw [hy] at hx;cases hx;have AK:=(yJ.1 hy).1
   have hd:l.drop i=y::l.drop (i+1):=by
    rw [yc AK]
    congr 1
    exact (yJ.1 hy).2
   rw [hd] at hs;obtain ⟨r,h1,h2⟩:=iP hs;have T:=DF l' B' N' y s r h1
   have fin: ∀ {e:Exit} {S2:St},C8 K ex r.2 (H r.1) e S2 -> ZU K (fun h=>∃ s,ED f (l.drop (i+1)) s=some rE/\ h=H s) (fun e h=>(Exit.normal::ex)[rE.2]? =some e/\ h=H rE.1) e S2:=by
    rintro e S2 ⟨r1,S3,r2,r3⟩;refine ⟨S3,r2,?_⟩;cases hc:r.2 with
    | zero=>
     rw [hc] at r1 h2;cases r1;exact .inl ⟨rfl,r.1,h2,r3⟩
    | succ c=>
     rw [hc] at r1 h2;cases h2;have:e∈ex:=yn (i:=c) r1;exact .inr ⟨yL.1 Ig e this,by rw [hc];exact r1,r3⟩
   refine Tr.mono T fun e S2 Y2 hq=>?_
   cases e with
   | normal=>exact ⟨hq.1,fun N2=>Tr.mono (show Tr P Γ (Fence.wide.inRound l') (some B') K N2 body S2 (stay N2 (C8 K ex r.2 (H r.1))) from hq.2 N2) fun e S3 Y3 h3=>⟨h3.1,fin h3.2⟩⟩
   | ret=>exact hq.elim
   | exit id=>exact hq.elim
   | goto t=>exact hq.elim
   | panic c=>exact hq.elim
   | outgrown=>exact hq.elim
 ·rintro h ⟨s,hs,rfl⟩;rw [yr,List.drop_length] at hs;cases hs;exact Dv .normal rfl
 ·rintro e h he ⟨h1,rfl⟩;exact Dv e h1
theorem No {F:Fence} {B:Option Nat} {L:Nat} {Y:BS P Γ L} {Q:QY P Γ L} {S:St} {id:Nat} (h:Q (.exit id) S Y): ∀ (k:List KI),HZ id k=none -> DJ P Γ F B L Q k (.exit id) S Y
 | [],_=>h
 | .blk i::k,hp=>by
  unfold HZ at hp;split at hp
  ·cases hp
  ·rename_i e
   show (if id=i then _ else _)
   rw [yM e];exact No h k hp
 | .code c::k,hp=>No (k:=k) h hp
 | .lend J::k,hp=>No (k:=k) h hp
 | .scp::k,hp=>No (k:=k) h hp
 | .loopN m b::k,hp=>No (k:=k) h hp
end
def Iz (t:Nat):Code -> Option (Array Tmp×Code×Code)
 | .rangeFunc (.tmp t') ps a b=>if t'=t then some (ps,a,b) else Iz t b
 | .seq a b=>match Iz t a with
  | some r=>some r
  | none=>Iz t b
 | .cond _ a b=>match Iz t a with
  | some r=>some r
  | none=>Iz t b
 | .block _ c=>Iz t c
 | .loop c=>Iz t c
 | .scope c=>Iz t c
 | _=>none
def bs (f:Func) (t:Nat):Array Tmp×Code×Code:=match f.body with
 | some c=>(Iz t c).getD (#[],.skip,.skip)
 | none=>(#[],.skip,.skip)
def SR (f:Func) (t:Nat):Code:=(bs f t).2.2
def mz (f:Func) (t:Nat):Code:=(bs f t).2.1
def AZ (f:Func):Code:=f.body.getD .skip
def cN (id:Nat) (k:List KI):List KI:=(HZ id k).getD []
theorem DJ.exitTo {P:Program} {Γ:Au} {F:Fence} {B:Option Nat} {L:Nat} {Y:BS P Γ L} {Q:QY P Γ L} {id:Nat} {k:List KI} {S:St} (h:(HZ id k).isSome=true) (hk:Aq P Γ F B L Y Q (cN id k) S):DJ P Γ F B L Q k (.exit id) S Y:=by
 unfold cN at hk;cases hp:HZ id k with
 | none=>rw [hp] at h;cases h
 | some k'=>rw [hp] at hk;exact LL hp hk
def LD:List KI -> Option (Operand×Array Tmp×Code×Code×List KI)
 | .code (.rangeFunc g ps a b)::k=>some (g,ps,a,b,k)
 | _=>none
theorem BJ.rangeAt {P:Program} {Γ:Au} {F:Fence} (Ho:F=Fence.wide∨∃ l,F=Fence.wide.inRound l) {B L:Nat} {Y:BS P Γ L} {Q:QY P Γ L} {fr:List DV} {h:DH} {K:List KI} (ex:List Exit) (Ig:(ex.all fun e=>(JS e).isSome)=true) (g:Operand) (ps:Array Tmp) (a b:Code) (k2:List KI) {kk:Nat} {α σ:Type} (enc:α -> Array Value) (l:List α) (H:σ -> DH) (FR:α -> List DV) (f:α -> σ -> Option (σ×Nat)) {s0:σ} {rE:σ×Nat} (hf:ED f l s0=some rE)
 (hK:LD K=some (g,ps,a,b,k2)) (hg:AY fr g= .it kk) (hk:h[kk]? =some (some (.iter (l.map enc)))) (Db: ∀ x,(enc x).size=ps.size) (L':Nat) (hL:Nat.ble L L'=true) (Fp:fr.all (F0 L')=true) (h0:h.set kk none=H s0) (Du:(fun x=>Iv fr ps.toList (enc x).toList)=FR)
 (DF: ∀ (l B:Nat) (N:BS P Γ L') (x:α) (s:σ) (r:σ×Nat),f x s=some r -> Fs P Γ (Fence.wide.inRound l) (some B) L' N (C8 L' ex r.2 (H r.1)) a b ⟨FR x,H s⟩)
 (Dv: ∀ e,(Exit.normal::ex)[rE.2]? =some e -> DJ P Γ F (some B) L Q k2 e ⟨fr,H rE.1⟩ Y):Aq P Γ F (some B) L Y Q K ⟨fr,h⟩:=by
 unfold LD at hK;split at hK
 ·cases hK;subst Du;exact BJ.rangeFold Ho ex Ig enc l H f hf hg hk Db (zW hL) Fp h0 DF Dv
 ·cases hK
theorem BJ.rangeAt0 {P:Program} {Γ:Au} {F:Fence} (Ho:F=Fence.wide∨∃ l,F=Fence.wide.inRound l) {B L:Nat} {Y:BS P Γ L} {Q:QY P Γ L} {fr:List DV} {h:DH} {K:List KI} (g:Operand) (ps:Array Tmp) (a b:Code) (k2:List KI) {kk:Nat} {α σ:Type} (enc:α -> Array Value) (l:List α) (H:σ -> DH) (FR:α -> List DV) (f:α -> σ -> Option σ) {s0 sE:σ} (hf:Bz f l s0=some sE)
 (hK:LD K=some (g,ps,a,b,k2)) (hg:AY fr g= .it kk) (hk:h[kk]? =some (some (.iter (l.map enc)))) (Db: ∀ x,(enc x).size=ps.size) (L':Nat) (hL:Nat.ble L L'=true) (Fp:fr.all (F0 L')=true) (h0:h.set kk none=H s0) (Du:(fun x=>Iv fr ps.toList (enc x).toList)=FR)
 (DF: ∀ (l B:Nat) (N:BS P Γ L') (x:α) (s r:σ),f x s=some r -> Fs P Γ (Fence.wide.inRound l) (some B) L' N (C8 L' [] 0 (H r)) a b ⟨FR x,H s⟩)
 (Dv:Aq P Γ F (some B) L Y Q k2 ⟨fr,H sE⟩):Aq P Γ F (some B) L Y Q K ⟨fr,h⟩:=by
 refine BJ.rangeAt Ho [] rfl g ps a b k2 enc l H FR (fun x s=>(f x s).map fun s'=>(s',0)) (rE:=(sE,0)) (by rw [gF,hf];rfl) hK hg hk Db L' hL Fp h0 Du (fun l' B' N' x s r hr=>?_) (fun e he=>?_)
 ·cases hx:f x s with
  | none=>rw [hx] at hr;cases hr
  | some s'=>
   rw [hx] at hr;cases hr;exact DF l' B' N' x s s' hx
 ·cases he;exact Dv
def KY (t:Nat):List Nat -> Code -> List KI -> Option (List KI)
 | ms,.seq a b,k=>match KY t ms a (.code b::k) with
  | some r=>some r
  | none=>KY t ms b k
 | ms,.cond _ a b,k=>match KY t ms a k with
  | some r=>some r
  | none=>KY t ms b k
 | ms,.block i c,k=>KY t ms c (.blk i::k)
 | ms,.scope c,k=>KY t ms c (.scp::k)
 | m::ms,.loop b,k=>KY t ms b (.loopN m b::k)
 | _,.rangeFunc (.tmp t') ps a b,k=>if t'=t then some (.code (.rangeFunc (.tmp t') ps a b)::k) else none
 | _,_,_=>none
def GX (c:Code) (t:Nat) (ms:List Nat):List KI:=(KY t ms c []).getD []
def Ap (c:Code) (id:Nat) (ms:List Nat):List KI:=(KZ id ms c []).getD []
def H3 (c:Code) (id:Nat) (ms:List Nat):List KI:=(Ka id ms c []).getD []
end Go.Proofs.YtekkngkphejfcaaGreatDoor
namespace Go.Proofs.YtekkngkphejfcaaGreatDoor
open Go.RowKit
abbrev L1 (l:List DV):Nat -> DV:=fun j=>l.getD j .any
abbrev Ak {α:Type} [Inhabited α] (c:α -> List DV) (l:List α):Nat -> Nat -> DV:=fun i j=>(c (l.getD i default)).getD j .any
def AG (c:AB):List DV:=[.int .i64 c.kind,.ints c.cells,.int .i64 c.set,.int .i64 c.other,.int .i64 c.lo,.int .i64 c.hi,.ints c.runs,.int .i64 c.rule,.int .i64 c.spot]
def BD (x:List Int):List DV:=[.ints x]
def U5 (x:List Bool):List DV:=[.bools x]
def AD (q:AA):List DV:=[.int .i64 q.cells,.int .i64 q.symbols,.ints q.values,.sl 1 q.nbrs.length (Ak BD q.nbrs),.sl 9 q.cons.length (Ak AG q.cons)]
end Go.Proofs.YtekkngkphejfcaaGreatDoor
namespace Go.Proofs.YtekkngkphejfcaaGreatDoor
abbrev zI:=@List.drop_eq_nil_of_le
end Go.Proofs.YtekkngkphejfcaaGreatDoor
namespace Go.Proofs.YtekkngkphejfcaaGreatDoor
open Go.RowKit
structure Di (P:Program) (Γ:Au) where
 l:Nat
 Rd:Nat -> Prop
 encs:List (Array Value)
 J:Nat -> (Nat -> Prop) -> World -> Prop
 Jx:(Nat -> Prop) -> World -> Prop
 hJ: ∀ i,EX (J i)
 hJx:EX Jx
 lo: ∀ b,b<Γ.ng -> Rd b
 hy: ∀ i args G W1,encs[i]? =some args -> J i G W1 -> YieldAt Fence.wide 0 P l args W1 fun e W'=>
  AM (fun k=>¬ (G k∨Rd k)) W1 W'/\ ((e= .returned (.bool true)/\ J (i+1) G W')∨(e= .returned (.bool false)/\ Jx G W'))
def dx (P:Program) (Γ:Au) (L:Nat) (Rd:Nat -> Prop) (J:(Nat -> Prop) -> World -> Prop) (hJ:EX J):BS P Γ L where
 I:=fun N h ρ w=>∃ G,J G w/\ (∀ b,G b -> b<w.heap.size)/\ (∀ b,MO h ρ b -> G b)/\ (∀ b,N b↔(b<w.heap.size/\ Γ.ng<=b/\ ¬ G b/\ ¬ Rd b))
 st:=by
  rintro N h ρ w h' ρ' w' ⟨G,h1,h2,h3,h4⟩ H H' st _;have hs:=st.upd.size;refine ⟨fun b=>G b∨(w.heap.size<=b/\ b<w'.heap.size),hJ G _ w w' h1 (st.upd.mono fun b _ hb=>h3 b hb) (fun k hk=>hk.imp id fun h=>h.1) (fun k hk=>hk.elim (fun h=>yN (h2 k h) hs) fun h=>h.2),fun b hb=>hb.elim (fun h=>yN (h2 b h) hs) fun h=>h.2,fun b hb=>?_,fun b=>?_⟩
  ·rcases st.grow b hb with h | h
   ·exact .inl (h3 b h)
   ·obtain ⟨k,o,p,q1,q2,q3⟩:=hb;obtain ⟨_,_,c,t,z,e⟩:=H'.cel k o p b q1 q2 q3;exact .inr ⟨h,(yE.1 e).1⟩
  ·rw [h4];constructor
   ·rintro ⟨a1,a2,a3,a4⟩;exact ⟨yN a1 hs,a2,fun hx=>hx.elim a3 fun hx=>by omega,a4⟩
   ·rintro ⟨a1,a2,a3,a4⟩;have: ¬ (w.heap.size<=b):=fun hx=>a3 (.inr ⟨hx,a1⟩)
    exact ⟨by omega,a2,fun hx=>a3 (.inl hx),a4⟩
section
variable {P:Program} {Γ:Au}
def Di.Y (C:Di P Γ) (L i:Nat):BS P Γ L:=dx P Γ L C.Rd (C.J i) (C.hJ i)
def Di.X (C:Di P Γ) (L:Nat):BS P Γ L:=dx P Γ L C.Rd C.Jx C.hJx
def Di.Q (C:Di P Γ) (L:Nat):QY P Γ L:=fun e _ Y=>(e= .normal∨e= .ret)/\ (Y=C.Y L C.encs.length∨Y=C.X L)
def Yj:DV -> Option Value
 | .int k n=>some (.int k n)
 | .bool b=>some (.bool b)
 | _=>none
theorem vt {M:Nat -> Prop} {w:World} {ρ:List AI} {d:DV} {v u:Value} (h:Yj d=some v) (hr:AJ M w d ρ u):u=v:=by
 cases d <;> simp only [Yj,zO] at h
 all_goals first | (subst h;exact hr) | (cases h)
def TM:List DV -> Option (List Value)
 | []=>some []
 | d::ds=>match Yj d,TM ds with
  | some v,some vs=>some (v::vs)
  | _,_=>none
theorem dU {M:Nat -> Prop} {w:World} {ρ:List AI} {f:Operand -> Value} {g:Operand -> DV} (hr: ∀ x,AJ M w (g x) ρ (f x)): ∀ {l:List Operand} {vs:List Value},TM (l.map g)=some vs -> l.map f=vs
 | [],vs,h=>by cases h;rfl
 | x::l,vs,h=>by
  simp only [zi,TM] at h;split at h
  ·rename_i v Bm h1 h2;cases h;rw [zi,vt h1 (hr x),dU hr h2]
  ·cases h
def OM (P:Program) (Γ:Au) (ops:Array Oper) (p:Nat) (S:St) (An:Bt):Option (List Value×Nat×St×St×List Prop):=match ET P Γ ops (ops.toList.take p) S An with
 | none=>none
 | some (S1,vs,LQ)=>match ops[p]? with
  | none=>none
  | some o=>match Kt ops S1 o with
   | some true=>match o.op with
    | .call c=>match c.callee with
     | .value f=>match AY S1.fr f with
      | .yl l=>match TM (c.args.toList.map (AY S1.fr)) with
       | none=>none
       | some xs=>match ET P Γ ops (ops.toList.drop (p+1)) ⟨Ed S1.fr o.dst (.bool true),S1.h⟩ LQ with
        | none=>none
        | some (ST,vT,Gn)=>match ET P Γ ops (ops.toList.drop (p+1)) ⟨Ed S1.fr o.dst (.bool false),S1.h⟩ Gn with
         | none=>none
         | some (SF,vF,_)=>some (xs,l,ST,SF,vs++(vT++vF))
      | _=>none
     | _=>none
    | _=>none
   | _=>none
end
section
variable {P:Program} {Γ:Au} {N:Nat -> Prop} {S:St} {ρ:List AI} {a:Act} {w:World} {F:Fence}
theorem YY (hF:Dj F P) {ops:Array Oper} (Aw:Dq ops=true) {Q:Exit -> Act -> World -> Prop} {Fh:List Oper}: ∀ (l:List Oper) (_: ∀ o∈l,o∈ops) {S:St} {ρ:List AI} {a:Act} {w:World} {An:Bt} {S':St} {vs:List Prop} {CP:Bt},
 AX P Γ N S ρ a w -> ET P Γ ops l S An=some (S',vs,CP) -> Bc vs ->
 (∀ ρ' a' w',AX P Γ N S' ρ' a' w' -> EH S.h ρ w S'.h ρ' w' -> a'.defers=a.defers -> wpListIn F 0 P ops Q Fh a' w') -> wpListIn F 0 P ops Q (l++Fh) a w
 | [],_,S,ρ,a,w,An,S',vs,CP,R,h,_,hQ=>by
  cases h;exact hQ ρ a w R (EH.refl _ _ _) rfl
 | o::rest,hl,S,ρ,a,w,An,S',vs,CP,R,h,hv,hQ=>by
  have hd: ∀ c,o.op≠.defer c:=by
   obtain ⟨j,hj,e⟩:=Array.getElem_of_mem (hl o (by simp));exact Hc Aw (j:=j) (by rw [zN hj,e])
  have Dt: ∀ o∈rest,o∈ops:=fun o ho=>hl o (by simp [ho])
  have DR: ∀ v,(a.put o.dst v).defers=a.defers:=fun v=>by cases ho:o.dst <;> simp [Act.put]
  simp only [ET] at h;rw [List.cons_append];unfold wpListIn;split at h
  ·split at h
   ·cases h
   ·rename_i S1 Cs ext1 LQ h1;split at h
    ·cases h
    ·rename_i S2 FD Gn h2;cases h;obtain ⟨Bb,CE⟩:=Cx.1 hv;exact ZA hF R hd h1 Bb fun ρ' a' w' R' st Dw _=>YY hF Aw rest Dt R' h2 CE fun ρ'' GE CI Ft EL Hl=>hQ ρ'' GE CI Ft (st.trans EL) (Hl.trans Dw)
  ·split at h
   ·cases h
   ·rename_i S1 Cs RE h1;split at h
    ·cases h
    ·rename_i S2 FD Gn h2;cases h;obtain ⟨Bb,CE⟩:=Cx.1 hv;obtain ⟨e1,hs⟩:=Sk R h1 Bb
     have go: ∀ v,AX P Γ N S1 ρ (a.put o.dst v) w -> wpListIn F 0 P ops Q (rest++Fh) (a.put o.dst v) w:=fun v R'=>
      YY hF Aw rest Dt R' h2 CE fun ρ'' GE CI Ft EL Hl=>hQ ρ'' GE CI Ft (by rw [←e1];exact EL) (Hl.trans (DR v))
     rcases hs with ⟨hw,v,g1,g2⟩ | ⟨hw,g2⟩
     ·rw [yC hw];refine ⟨fun f _=>hF.fn f,?_⟩;rw [zAT _ _ _ hd,g1 w (Keep.ofExt (Ar.refl w))];exact go v g2
     ·rw [yM (by rw [hw];exact zAQ)];exact ⟨fun f _=>hF.fn f,go undef g2⟩
theorem mS {l:Nat} {ρ':Operand -> Value} {o:Oper} {c:Call} {f:Operand} {vs:List Value} (ho:o.op= .call c) (hc:c.callee= .value f) (hf:ρ' f= .func (.yield l) #[] #[]) (hv:c.args.toList.map ρ'=vs):(execOp ρ' o).run P w=(Instr.yield l vs.toArray).run P w:=by
 unfold execOp;rw [ho]
 show ((resolve ρ' c o.type)>>=fun d=>invoke d.target d.args).run P w=_
 unfold resolve;rw [hc];simp only [Deferred.ofValue,hf]
 have e: #[]++Array.map ρ' c.args=vs.toArray:=by
  rw [←hv];apply Array.ext';simp
 have he:((pure { target:=.fn (.yield l) #[],args:=#[]++Array.map ρ' c.args }:Sem Deferred)>>=fun d=>invoke d.target d.args).run P w=(Instr.yield l (#[]++Array.map ρ' c.args)).run P w:=rfl;rw [he,e]
theorem Tr.yield {L:Nat} {C:Di P Γ} {i:Nat} {Q:QY P Γ L} (hF:Dj Fence.wide P) {id:Nat} {ops:Array Oper} {p:Nat} {An:Bt} {x:Array Value} {ST SF:St} {vs:List Prop} (Aw:Dq ops=true)
 (h:OM P Γ ops p S An=some (x.toList,C.l,ST,SF,vs)) (hv:Bc vs) (hx:C.encs[i]? =some x) (hT:Q .normal ST (C.Y L (i+1))) (hE:Q .normal SF (C.X L)):Tr P Γ Fence.wide none L (C.Y L i) (.region id ops false) S Q:=fun N ρ a w R y m b=>by
 unfold OM at h;split at h
 ·cases h
 rename_i S1 Cs LQ h1;split at h
 ·cases h
 rename_i o ho;split at h
 ·rename_i hw;split at h
  ·rename_i c tN;split at h
   ·rename_i f hc;split at h
    ·rename_i l hl;split at h
     ·cases h
     rename_i xs XX;split at h
     ·cases h
     rename_i ST' vT Gn h2;split at h
     ·cases h
     rename_i SF' vF M1 h3;cases h;obtain ⟨Bb,Cd⟩:=Cx.1 hv;obtain ⟨rL,rM⟩:=Cx.1 Cd;have hp:p<ops.toList.length:=by simpa using (yE.1 ho).1
     have rV:ops.toList=ops.toList.take p++o::ops.toList.drop (p+1):=by
      have e:ops.toList[p]=o:=by
       have:=(yE.1 ho).2;simpa using this
      rw [←e,←yc hp,List.take_append_drop]
     have Bx: ∀ o'∈ops.toList,o'∈ops:=fun o' h=>by simpa using h
     have hd: ∀ c,o.op≠.defer c:=Hc Aw ho;refine wpIn_region_list ?_;rw [rV];refine YY hF Aw _ (fun o' GT=>Bx o' (List.mem_of_mem_take GT)) R h1 Bb fun ρ1 a1 w1 R1 Mh uL=>?_
     obtain ⟨G,y1,y2,y3,y4⟩:=(C.Y L i).st y R.hr R1.hr Mh.st (fun k p _ hp=>Mh.pl k p hp);obtain ⟨fn,tmps,ig,body,hy,hR⟩:=C.hy i x G w1 hx y1;unfold wpListIn;rw [yC (Jh R1 hw)]
     have t7:a1.eval f= .func (.yield C.l) #[] #[]:=by
      have hr:=Bj R1 f;rw [hl] at hr;exact hr
     have uV:c.args.toList.map a1.eval=x.toList:=dU (f:=a1.eval) (g:=AY S1.fr) (fun x=>Bj R1 x) XX;refine ⟨fun f _=>hF.fn f,?_⟩;rw [zAT _ _ _ hd,mS tN hc t7 uV,hy];refine ⟨fun hx=>(by cases hx),hR.mono ?_⟩;have Af:a1.defers= []:=uL.trans m;rintro e W' ⟨hu,hj⟩;have hs:=hu.size;have BR:AM N w1 W':=hu.mono fun bb AK hn=>(y4 bb).2 ⟨AK,zA0 fun hx=>hn (.inr (C.lo bb hx)),fun hx=>hn (.inl hx),fun hx=>hn (.inr hx)⟩
     have fl: ∀ bb,N bb -> N bb/\ Γ.ng<=bb:=fun bb hb=>⟨hb,((y4 bb).1 hb).2.1⟩
     have ff: ∀ bb,(bb<W'.heap.size/\ Γ.ng<=bb/\ ¬ G bb/\ ¬ C.Rd bb) -> N bb∨w1.heap.size<=bb:=fun bb ⟨q1,q2,q3,q4⟩=>by
      rcases zd bb w1.heap.size with h | h
      ·exact .inl ((y4 bb).2 ⟨h,q2,q3,q4⟩)
      ·exact .inr h
     have H':BK P Γ (fun bb=>bb<W'.heap.size/\ Γ.ng<=bb/\ ¬ G bb/\ ¬ C.Rd bb) S1.h ρ1 W':=R1.hr.foreign BR fl ff fun bb ⟨q1,q2,_⟩=>⟨q1,q2⟩
     have DI:AX P Γ (fun bb=>bb<W'.heap.size/\ Γ.ng<=bb/\ ¬ G bb/\ ¬ C.Rd bb) S1 ρ1 a1 W':=⟨H',R1.fr.out (BM.foreign (Γ:=Γ) BR fl ff)⟩;have DR: ∀ v,(a1.put o.dst v).defers=a1.defers:=fun v=>by cases ho:o.dst <;> simp [Act.put]
     rcases hj with ⟨rfl,hj⟩ | ⟨rfl,hj⟩
     ·have R':=II DI o.dst (d:=.bool true) (v:=.bool true) rfl;refine KT hF Aw _ (fun o' GT=>Bx o' (List.mem_of_mem_drop GT)) R' h2 rL fun ρ2 a2 w2 R2 Oi YI=>?_
      refine ⟨ST,ρ2,_,C.Y L (i+1),hT,R2,(C.Y L (i+1)).st ⟨G,hj,fun bb hb=>yN (y2 bb hb) hs,y3,fun bb=>Iff.rfl⟩ R'.hr R2.hr Oi.st (fun k p _ hp=>Oi.pl k p hp),?_,Bd.none⟩
      show a2.defers= []
      rw [YI,DR];exact Af
     ·have R':=II DI o.dst (d:=.bool false) (v:=.bool false) rfl;refine KT hF Aw _ (fun o' GT=>Bx o' (List.mem_of_mem_drop GT)) R' h3 rM fun ρ2 a2 w2 R2 Oi YI=>?_
      refine ⟨SF,ρ2,_,C.X L,hE,R2,(C.X L).st ⟨G,hj,fun bb hb=>yN (y2 bb hb) hs,y3,fun bb=>Iff.rfl⟩ R'.hr R2.hr Oi.st (fun k p _ hp=>Oi.pl k p hp),?_,Bd.none⟩
      show a2.defers= []
      rw [YI,DR];exact Af
    ·cases h
   ·cases h
  ·cases h
 ·cases h
end
theorem gW {P:Program} {f:Nat} {fn:Func} (hf:P.funcs[f]? =some fn) (hb:fn.body.isSome=true) (hn:(fn.name== "runtime.NumGoroutine")=false) (args:Array Value) (W:World):(callFunc f args).run P W= .ok (.enter f args) W:=by
 have NU: ¬ fn.name= "runtime.NumGoroutine" :=by simpa using hn
 have ER: ¬ fn.body=none:=by intro e;rw [e] at hb;cases hb
 simp [callFunc,go_sem,hf,NU,ER]
theorem ES.iterN {P:Program} {Γ:Au} {f gf m:Nat} {fn:Func} {ds:List DV} {c:Nat -> DV} {h0:DH} {encs:List (Array Value)} (EC:ES P Γ f ds [] (.fn gf m c) h0 true) (E6:ds.all GQ=true)
 (hf:P.funcs[gf]? =some fn) (hb:fn.body.isSome=true) (hn:(fn.name== "runtime.NumGoroutine")=false) (Tz:fn.results= #[])
 (body: ∀ C:Di P Γ,C.encs=encs -> Aq P Γ Fence.wide none h0.length (C.Y h0.length 0) (C.Q h0.length) [.code (AZ fn)] ⟨.yl C.l::(List.range m).map c++List.replicate (fn.ntmps-(m+1)) .any,h0⟩) (h:DH):ES P Γ f ds h (.it h.length) (h++[some (.iter encs)]) true:=by
 refine ⟨EC.1,fun N ρ w args HR CK=>?_⟩;refine (EC.2 (MS N h ρ) [] w args (NO (fun b hb=>HR.lt2 hb) HR.gi) ⟨CK.1,fun i hi=>?_⟩).mono ?_
 ·have hx:=M3 (yL.1 E6 (ds.getD i .any) (by simp [hi]));exact AJ.out _ (C0 (fun b hb=>MT.1 hb) []) (hx _ _ _ _ (CK.2 i hi))
 ·rintro e w' ⟨v,rfl,⟨⟨ρ',g1,g2,g3,g4⟩,g5⟩⟩;have hE:=g5 rfl;obtain ⟨lb,hv,hl,T9⟩:=g2;have G3: ∀ b,MO h0 ρ' b -> w.heap.size<=b:=fun b hb=>(g3.grow b hb).resolve_left fun ⟨k,o',p',q1,_⟩=>by simp at q1
  have C1: ∀ b,MO h0 ρ' b -> Γ.ng<=b/\ ¬ MS N h ρ b/\ Dh w' b:=fun b ⟨k,o,q,q1,q2,q3⟩=>g1.cel k o q b q1 q2 q3
  have F7:Γ.ng<=w.heap.size:=Γ.lo _ HR.gi;have A2:=hE.size
  have AK: ∀ b,MO h0 ρ' b -> b<w'.heap.size:=fun b hb=>by
   obtain ⟨_,_,c,t,z,h⟩:=C1 b hb;exact (yE.1 h).1
  have lo: ∀ b,b<Γ.ng -> b<w'.heap.size/\ ¬ MS (MS N h ρ) h0 ρ' b:=fun b hb=>⟨yN hb (yO F7 A2),fun hx=>by
   rcases hx with hx | hx
   ·have:=(HR.lt2 hx).2;omega
   ·have:=(C1 b hx).1;omega⟩
  let p:AI:=⟨0,0,0,v,fun b=>MO h0 ρ' b⟩
  have hp: ∀ b,p.foot b -> w.heap.size<=b/\ Dh w' b:=fun b hb=>⟨G3 b hb,(C1 b hb).2.2⟩
  refine ⟨v,rfl,⟨⟨ρ++[p],HR.snoc hE hp ?_,⟨p,by rw [←HR.len];simp,rfl⟩,A8.snoc HR hE fun b hb=>(hp b hb).1,fun _ _ h=>De h⟩,g5⟩⟩;refine ⟨gf,lb,fun b=>b<w'.heap.size/\ ¬ MS (MS N h ρ) h0 ρ' b,⟨hv,fun args W=>gW hf hb hn args W⟩,?_,fun b hb=>⟨fun hm=>?_,hb.1⟩,AK⟩
  ·intro l J Jx G W hJ hJx hU hG YV hY uw
   let C:Di P Γ:=⟨l,fun b=>b<w'.heap.size/\ ¬ MS (MS N h ρ) h0 ρ' b,encs,J,Jx,hJ,hJx,lo,hY⟩
   have T:=body C rfl;cases hc:fn.body with
   | none=>rw [hc] at hb;cases hb
   | some code=>
   have eb:AZ fn=code:=by unfold AZ;rw [hc];rfl
   rw [eb] at T;refine callsIn_of_wp hf hc trivial ?_ rfl
   have fe: ∀ b,(b<W.heap.size/\ Γ.ng<=b/\ ¬ G b/\ ¬ (b<w'.heap.size/\ ¬ MS (MS N h ρ) h0 ρ' b)) -> MS N h ρ b∨w'.heap.size<=b:=fun b ⟨_,_,q3,q4⟩=>by
    rcases zd b w'.heap.size with hx | hx
    ·by_cases hm:MS (MS N h ρ) h0 ρ' b
     ·rcases hm with hm | hm
      ·exact .inl hm
      ·exact absurd (hG b hm) q3
     ·exact absurd ⟨hx,hm⟩ q4
    ·exact .inr hx
   have hu:AM (fun b=>MS N h ρ b) w' W:=hU.mono fun b AK hx=>by
    by_cases hm:MS (MS N h ρ) h0 ρ' b
    ·rcases hm with hm | hm
     ·exact hm
     ·exact absurd (.inl hm) hx
    ·exact absurd (.inr ⟨AK,hm⟩) hx
   have fj: ∀ b,MS N h ρ b -> MS N h ρ b/\ Γ.ng<=b:=fun b hb=>⟨hb,(HR.lt2 hb).2⟩
   have HW:BK P Γ (fun b=>b<W.heap.size/\ Γ.ng<=b/\ ¬ G b/\ ¬ (b<w'.heap.size/\ ¬ MS (MS N h ρ) h0 ρ' b)) h0 ρ' W:=g1.foreign hu fj fe fun b hb=>⟨hb.1,hb.2.1⟩
   have vE:B1 (MS (MS N h ρ) h0 ρ') w' ρ' ((List.range m).map c) lb:=⟨by simp [hl],fun j hj=>by
    have BI:j<m:=by simpa using hj
    obtain ⟨u,q1,q2⟩:=T9 j BI;have e1:((List.range m).map c).getD j .any=c j:=by simp [BI]
    have e2:lb.getD j undef=u:=by rw [zU,q1];rfl
    rw [e1,e2];exact q2⟩
   have vG:=vE.out (BM.foreign (Γ:=Γ) hu fj fe)
   have fr:B1 (MS (fun b=>b<W.heap.size/\ Γ.ng<=b/\ ¬ G b/\ ¬ (b<w'.heap.size/\ ¬ MS (MS N h ρ) h0 ρ' b)) h0 ρ') W ρ' (.yl l::(List.range m).map c++List.replicate (fn.ntmps-(m+1)) .any) (#[.func (.yield l) #[] #[]]++lb++Array.replicate (fn.ntmps-(#[Value.func (.yield l) #[] #[]]++lb).size) undef):=by
    have e3:fn.ntmps-(#[Value.func (.yield l) #[] #[]]++lb).size=fn.ntmps-(m+1):=by simp [hl,Nat.add_comm]
    rw [e3];refine B1.append ?_ (B1.anys _ _ _ _);have:DV.yl l::(List.range m).map c= [DV.yl l]++(List.range m).map c:=rfl;rw [this]
    exact B1.append ⟨rfl,fun j hj=>by
     have:j=0:=by simpa using hj
     subst this;rfl⟩ vG
   refine zAJ ((show Tr P Γ Fence.wide none h0.length (C.Y h0.length 0) code _ (DJ P Γ Fence.wide none h0.length (C.Q h0.length) []) from T) _ ρ' _ W ⟨HW,fr⟩ ⟨G,uw,YV,fun b hb=>hG b hb,fun b=>Iff.rfl⟩ rfl Bd.none) ?_;rintro e a' W' ⟨S',ρ2,N',Y',q1,q2,q3,q4,q5⟩
   have fin:(Y'=C.Y h0.length C.encs.length∨Y'=C.X h0.length) -> (∃ G',J encs.length G' W')∨∃ G',Jx G' W':=by
    rintro (rfl | rfl)
    ·obtain ⟨G',k1,_⟩:=q3;exact .inl ⟨G',k1⟩
    ·obtain ⟨G',k1,_⟩:=q3;exact .inr ⟨G',k1⟩
   cases e with
   | normal=>exact bodyPost_end (results_none Tz _ _ _) q4 ⟨⟨_,rfl⟩,fin q1.2⟩
   | ret=>exact bodyPost_ret (results_none Tz _ _ _) q4 ⟨⟨_,rfl⟩,fin q1.2⟩
   | exit id=>exact absurd q1.1 (by simp)
   | goto t=>exact absurd q1.1 (by simp)
   | panic ch=>exact q1.elim
   | outgrown=>exact q1.elim
  ·rcases hm with hm | hm
   ·exact hb.2 (.inl (.inl hm))
   ·rcases MO.snoc HR hm with hm | hm
    ·exact hb.2 (.inl (.inr hm))
    ·exact hb.2 (.inr hm)
section
variable {P:Program} {Γ:Au}
def PH:List KI -> Option (Array Oper×List KI)
 | .code (.region _ ops false)::k=>some (ops,k)
 | _=>none
def WT (live σ:List Nat) (L:Nat) (r:List Value×Nat×St×St×List Prop):List Value×Nat×List DV×DH×List DV×DH×List Prop×Bool:=
 (r.1,r.2.1,(Proofs.YtekkngkphejfcaaGreatDoor.comp live σ r.2.2.1).fr,(Proofs.YtekkngkphejfcaaGreatDoor.comp live σ r.2.2.1).h,(Proofs.YtekkngkphejfcaaGreatDoor.comp live σ r.2.2.2.1).fr,(Proofs.YtekkngkphejfcaaGreatDoor.comp live σ r.2.2.2.1).h,r.2.2.2.2,It σ L r.2.2.1.h.length&&It σ L r.2.2.2.1.h.length)
theorem Aq.yieldAt {L:Nat} {C:Di P Γ} {i:Nat} {Q:QY P Γ L} {S:St} {K k:List KI} {ops:Array Oper} (hF:Dj Fence.wide P) (hK:PH K=some (ops,k)) (Aw:Dq ops=true) (p:Nat) (An:Bt) {x:Array Value} (live σ:List Nat) (Nl:List DV) (hT:DH) (Nm:List DV) (hE:DH) (vs:List Prop)
 (h:(OM P Γ ops p S An).map (WT live σ L)=some (x.toList,C.l,Nl,hT,Nm,hE,vs,true)) (hv:Bc vs) (hx:C.encs[i]? =some x) (hc:Hd k=true) (X8:Aq P Γ Fence.wide none L (C.Y L (i+1)) Q k ⟨Nl,hT⟩) (X9:Aq P Γ Fence.wide none L (C.X L) Q k ⟨Nm,hE⟩):Aq P Γ Fence.wide none L (C.Y L i) Q K S:=by
 unfold PH at hK;split at hK
 ·rename_i id oe k';cases hK;cases hr:OM P Γ ops p S An with
  | none=>rw [hr] at h;cases h
  | some r=>
   obtain ⟨xs,l,ST,SF,Cs⟩:=r;rw [hr] at h;simp only [yi,WT,zO,zn,yG] at h;obtain ⟨rfl,rfl,rfl,rfl,rfl,rfl,rfl,s1,s2⟩:=h;exact Tr.yield hF Aw hr hv hx (BJ.le (BF.comp live σ ST s1) hc X8) (BJ.le (BF.comp live σ SF s2) hc X9)
 ·cases hK
theorem dV {α β:Type} {o:Option α} {f:α -> β} {r:β} (h:o.map f=some r): ∃ a,o=some a/\ r=f a:=by
 cases o with
 | none=>cases h
 | some a=>cases h;exact ⟨a,rfl,rfl⟩
theorem gp {α β:Type} {l:List β} {i:Nat} {f:α -> β} {x:α} {r:List α} (hd:l.drop i=(x::r).map f):l[i]? =some (f x)/\ i+1<=l.length/\ l.drop (i+1)=r.map f:=by
 have AK:i<l.length:=by
  rcases zd i l.length with h | h
  ·exact h
  ·rw [zI h] at hd;cases hd
 rw [yc AK] at hd;injection hd with h1 h2
 exact ⟨by rw [xz AK,h1],AK,h2⟩
theorem Yk {α β:Type} {l:List β} {i:Nat} {f:α -> β} (hi:i<=l.length) (hd:l.drop i=([]:List α).map f):i=l.length:=by
 have:=congrArg List.length hd;simp at this;omega
end
def Bs (x:Int):Array Value:=#[.int .i64 x]
def MA (x:Int×Int):Array Value:=#[.int .i64 x.1,.int .i64 x.2]
end Go.Proofs.YtekkngkphejfcaaGreatDoor
namespace Go.Proofs.YtekkngkphejfcaaGreatDoor
abbrev zr:=@List.contains_iff_mem
end Go.Proofs.YtekkngkphejfcaaGreatDoor
namespace Go.Proofs.YtekkngkphejfcaaGreatDoor
open Go.RowKit
def HM:DV -> Bool
 | .ints _=>false
 | .bools _=>false
 | .sl .. =>false
 | .fp .. =>false
 | .agg m f=>(List.range m).all fun j=>HM (f j)
 | .tup m f=>(List.range m).all fun j=>HM (f j)
 | .fn _ m f=>(List.range m).all fun j=>HM (f j)
 | _=>true
def Om:Option DO -> Bool
 | none=>true
 | some (.cells l)=>l.all HM
 | some (.ints _)=>true
 | some (.bools _)=>true
 | some (.mo _)=>true
 | _=>false
def xu (H:DH) (σ:List Nat) (ρ:List AI) (b:Nat):Prop:=∃ (k:Nat) (o:DO) (p:AI),k∈σ/\ H[k]? =some (some o)/\ ρ[k]? =some p/\ p.foot b
def Ja (H:DH) (σ:List Nat) (d d0:DV):Prop:=∀ (P:Program) (Γ:Au) (N:Nat -> Prop) (ρ:List AI) (w:World) (v:Value),BK P Γ N H ρ w -> AJ (MS N H ρ) w d ρ v -> AJ (xu H σ ρ) w d0 [] v
theorem a7 {M M':Nat -> Prop} {w:World} {σ:List Nat} {b:Nat} {ρ ρ':List AI} (hρ: ∀ (k:Nat) (p:AI),ρ[k]? =some p -> ρ'[CZ σ b k]? =some p): ∀ (d:DV) {v:Value},HM d=true -> AJ M w d ρ v -> AJ M' w (up σ b d) ρ' v:=by
 intro d
 induction d with
 | any=>intro v _ _;trivial
 | nils=>intro v _ h;exact h
 | int k n=>intro v _ h;exact h
 | bool b=>intro v _ h;exact h
 | str s=>intro v _ h;exact h
 | ints l=>intro v hs h;cases hs
 | bools l=>intro v hs h;cases hs
 | sl m n f _=>intro v hs h;cases hs
 | fp m f _=>intro v hs h;cases hs
 | agg m f ih=>
  rintro v hs ⟨cs,e,hz,h⟩;simp only [HM,yL,yP] at hs;exact ⟨cs,e,hz,fun j hj=>let ⟨u,h1,h2⟩:=h j hj;⟨u,h1,HJ hj (ih j (hs j hj) h2)⟩⟩
 | tup m f ih=>
  rintro v hs ⟨cs,e,hz,h⟩;simp only [HM,yL,yP] at hs;exact ⟨cs,e,hz,fun j hj=>let ⟨u,h1,h2⟩:=h j hj;⟨u,h1,HJ hj (ih j (hs j hj) h2)⟩⟩
 | fn g m c ih=>
  rintro v hs ⟨cs,e,hz,h⟩;simp only [HM,yL,yP] at hs;exact ⟨cs,e,hz,fun j hj=>let ⟨u,h1,h2⟩:=h j hj;⟨u,h1,HJ hj (ih j (hs j hj) h2)⟩⟩
 | ref k j=>rintro v _ ⟨p,hp,r⟩;exact ⟨p,hρ k p hp,r⟩
 | msl k m o n=>rintro v _ ⟨p,cap,hp,r⟩;exact ⟨p,cap,hρ k p hp,r⟩
 | mp k m i j=>rintro v _ ⟨p,hp,r⟩;exact ⟨p,hρ k p hp,r⟩
 | it k=>rintro v _ ⟨p,hp,r⟩;exact ⟨p,hρ k p hp,r⟩
 | cst u=>intro v _ h;exact h
 | yl l=>intro v _ h;exact h
 | mse k m o n=>rintro v _ ⟨p,a,cap,hp,r⟩;exact ⟨p,a,cap,hρ k p hp,r⟩
 | mri k i=>rintro v _ ⟨p,vs,hp,r⟩;exact ⟨p,vs,hρ k p hp,r⟩
theorem kR {P:Program} {M M':Nat -> Prop} {w:World} {σ:List Nat} {b:Nat} {ρ ρ':List AI} {p:AI} (hρ: ∀ (k:Nat) (p:AI),ρ[k]? =some p -> ρ'[CZ σ b k]? =some p) {o o':DO} (hs:Om (some o)=true) (ho:Ca σ b (some o)=some o') (h:Cp P M w ρ p o):Cp P M' w ρ' p o':=by
 cases o with
 | cells l=>
  cases ho
  show AS w p (l.map (up σ b)).length _
  rw [yr];refine AS.out h rfl fun j u hj hu=>?_
  have:(l.map (up σ b)).getD j .any=up σ b (l.getD j .any):=by simp [hj]
  rw [this];refine a7 hρ _ ?_ hu;simp only [Om,yL] at hs;exact hs _ (by simp [hj])
 | ints l=>cases ho;exact AS.out h rfl fun j u _ hu=>hu
 | bools l=>cases ho;exact AS.out h rfl fun j u _ hu=>hu
 | arr m n f=>cases hs
 | iter encs=>cases hs
 | mo x=>cases ho;exact h
section
variable {P:Program} {Γ:Au}
theorem ES.embedS {f:Nat} {ds:List DV} {h:DH} {d:DV} {h':DH} {ext:Bool} (EC:ES P Γ f ds h d h' ext) (σ:List Nat) (H:DH) (hn:σ.Nodup) (AK: ∀ k∈σ,k<H.length) (hl:σ.length=h.length) (Dt:h.length<=h'.length)
 (hh:(σ.map fun k=>H.getD k none)=h.map (Ca σ H.length)) {Df:List DV} (Ae:Df.length=ds.length) (uZ: ∀ i,i<ds.length -> Df.getD i .any=up σ H.length (ds.getD i .any)∨Ja H σ (Df.getD i .any) (ds.getD i .any)) (re:HM d=true) (rZ:h'.all Om=true):ES P Γ f Df H (up σ H.length d) (Cf H σ h') ext:=by
 refine ⟨EC.1,fun N ρ w args HR CK=>?_⟩;obtain ⟨ρ0,P9⟩: ∃ ρ0,ρ0=σ.map fun k=>ρ.getD k Wf:=⟨_,rfl⟩
 have Px:ρ0.length=σ.length:=by rw [P9];simp
 have EW: ∀ {i k:Nat},σ[i]? =some k -> ρ0[i]? =ρ[k]? :=fun {i k} hk=>by
  have DG:k<ρ.length:=by rw [HR.len];exact AK k (yn hk)
  rw [P9,yS,hk];simp [DG]
 have Iu: ∀ {i:Nat},i<σ.length -> ∃ k,σ[i]? =some k/\ CZ σ H.length i=k:=fun {i} hi=>by
  refine ⟨σ[i],by simp [hi],?_⟩;unfold CZ;rw [yC hi];simp [hi]
 have F3: ∀ {i:Nat} {o:DO},h[i]? =some (some o) -> ∃ k o',σ[i]? =some k/\ H[k]? =some (some o')/\ Ca σ H.length (some o)=some o':=fun {i o} hi=>by
  have CS:i<σ.length:=by rw [hl];exact (yJ.1 hi).1
  obtain ⟨k,hk,_⟩:=Iu CS;have e:=congrArg (·[i]?) hh;simp only [yS,hk,hi,yi] at e;have Bi:=AK k (yn hk);have e:H.getD k none=Ca σ H.length (some o):=yK e;have e2: ∃ o',Ca σ H.length (some o)=some o':=by cases o <;> exact ⟨_,rfl⟩
  obtain ⟨o',GT⟩:=e2;refine ⟨k,o',hk,?_,GT⟩;rw [GT] at e;rw [xz Bi];rw [u8,xz Bi] at e;exact congrArg some e
 have cx: ∀ {i k:Nat} {o':DO},σ[i]? =some k -> H[k]? =some (some o') -> ∃ o,h[i]? =some (some o)/\ Ca σ H.length (some o)=some o':=fun {i k o'} hk ho=>by
  have CS:i<h.length:=by rw [←hl];exact (yJ.1 hk).1
  have e:=congrArg (·[i]?) hh;simp only [yS,hk,xz CS,yi] at e;have e:H.getD k none=Ca σ H.length h[i]:=yK e;rw [UN ho] at e;obtain ⟨o0,e0⟩:=MZ e.symm;exact ⟨o0,by rw [xz CS,e0],by rw [e0] at e;exact e.symm⟩
 obtain ⟨N0,Fq⟩: ∃ N0:Nat -> Prop,N0=fun _=>False:=⟨_,rfl⟩
 have Gs: ∀ b,MO h ρ0 b -> MO H ρ b:=by
  rintro b ⟨i,o,p,g1,g2,g3⟩;obtain ⟨k,o',e1,e2,_⟩:=F3 g1;exact ⟨k,o',p,e2,(EW e1).symm.trans g2,g3⟩
 have LZ: ∀ b,MS N0 h ρ0 b -> MS N H ρ b:=by
  rintro b (hb | hb)
  ·rw [Fq] at hb;exact hb.elim
  ·exact .inr (Gs b hb)
 have dn: ∀ (k:Nat) (p:AI),ρ[CZ σ H.length k]? =some p -> ρ0[k]? =some p:=fun k p hp=>by
  by_cases hk:k<σ.length
  ·obtain ⟨k',e1,e2⟩:=Iu hk;rw [e2] at hp;exact (EW e1).trans hp
  ·unfold CZ at hp;rw [yM hk] at hp;have:=(yJ.1 hp).1;rw [HR.len] at this;omega
 have foreign: ∀ {k:Nat} {o:DO} {p:AI} {b:Nat},Cj σ k=none -> H[k]? =some (some o) -> ρ[k]? =some p -> p.foot b -> ¬ MO h ρ0 b:=by
  rintro k' o2 p2 b q1 q2 q3 q4 ⟨i,o,p,g1,g2,g3⟩;obtain ⟨k,o',e1,e2,_⟩:=F3 g1;have hp:=(EW e1).symm.trans g2;refine HR.dis k k' o' o2 p p2 b ?_ e2 q2 hp q3 g3 q4;rintro rfl;rw [Mt hn e1] at q1;cases q1
 have H0:BK P Γ N0 h ρ0 w:=by
  refine ⟨by rw [Px,hl],fun i o hi=>?_,fun i o p b g1 g2 g3=>?_,fun i i' o1 o2 p1 p2 b AV g1 g2 g3 g4 g5 g6=>?_,fun b hb=>HR.lt2 (LZ b (.inl hb)),HR.gi⟩
  ·obtain ⟨k,o',e1,e2,e3⟩:=F3 hi;obtain ⟨p,hp,hr⟩:=HR.obj k o' e2;exact ⟨p,(EW e1).trans hp,gq LZ dn e3 hr⟩
  ·obtain ⟨k,o',e1,e2,e3⟩:=F3 g1;obtain ⟨q1,q2,q3⟩:=HR.cel k o' p b e2 ((EW e1).symm.trans g2) g3;exact ⟨q1,fun hb=>by rw [Fq] at hb;exact hb,q3⟩
  ·obtain ⟨k,o',e1,e2,e3⟩:=F3 g1;obtain ⟨k',Wb,Nu,Q0,vr⟩:=F3 g2;refine HR.dis k k' o' Wb p1 p2 b ?_ e2 Q0 ((EW e1).symm.trans g3) ((EW Nu).symm.trans g4) g5 g6;rintro rfl;have a1:=Mt hn e1;have a2:=Mt hn Nu;exact AV (yK (a1.symm.trans a2))
 refine (EC.2 N0 ρ0 w args H0 ⟨by rw [←CK.1,Ae],fun i hi=>?_⟩).mono ?_
 ·have:=CK.2 i (by rw [Ae];exact hi);rcases uZ i hi with e | e
  ·rw [e] at this;exact Ym LZ dn _ this
  ·refine Ms (AJ.out _ (C0 (fun b hb=>?_) []) (e P Γ N ρ w _ HR this));rcases hb with hb | ⟨i,o,p,g1,g2,g3⟩
   ·rw [Fq] at hb;exact hb.elim
   ·obtain ⟨k,o',e1,e2,_⟩:=F3 g1;exact ⟨k,o',p,yn e1,e2,(EW e1).symm.trans g2,g3⟩
 ·rintro e w' ⟨v,rfl,⟨⟨ρ1,g1,g2,g3,g4⟩,g5⟩⟩;have l1:ρ1.length=h'.length:=g1.len;obtain ⟨ρ',Fl⟩: ∃ ρ',ρ'=ρ++ρ1.drop σ.length:=⟨_,rfl⟩
  have RV: ∀ {i k:Nat},σ[i]? =some k -> ρ1[i]? =ρ[k]? :=fun {i k} hk=>by
   have CS:i<ρ0.length:=by rw [Px];exact (yJ.1 hk).1
   have:=g4 i ρ0[i] (by simp [CS]);rw [this,←EW hk];simp [CS]
  have Eh: ∀ {k:Nat},k<H.length -> ρ'[k]? =ρ[k]? :=fun {k} hk=>by rw [Fl,yW (by rw [HR.len];exact hk)]
  have OS: ∀ (k:Nat) (p:AI),ρ1[k]? =some p -> ρ'[CZ σ H.length k]? =some p:=fun k p hp=>by
   by_cases hk:k<σ.length
   ·obtain ⟨k',e1,e2⟩:=Iu hk;rw [e2,Eh (AK k' (yn e1)),←RV e1];exact hp
   ·unfold CZ;rw [yM hk,Fl,yh (by rw [HR.len];omega),zm,HR.len];rw [show σ.length+(H.length+(k-σ.length)-H.length)=k by omega];exact hp
  have Wu:(Cf H σ h').length=H.length+(h'.length-σ.length):=by simp [Cf]
  have Fy: ∀ {k:Nat} {o':DO},(Cf H σ h')[k]? =some (some o') -> (k<H.length/\ Cj σ k=none/\ H[k]? =some (some o')/\ ρ'[k]? =ρ[k]?)∨∃ i o,h'[i]? =some (some o)/\ Ca σ H.length (some o)=some o'/\ ρ'[k]? =ρ1[i]? /\ k=CZ σ H.length i:=by
   intro k o' hk
   by_cases Bi:k<H.length
   ·unfold Cf at hk;rw [yW (by simpa using Bi),yS,zy Bi] at hk;simp only [yi,zO] at hk;split at hk
    ·rename_i i hi;have JN:=IM hi;obtain ⟨o0,e0⟩:=MZ hk;have CS:i<h'.length:=yN (by rw [←hl];exact (yJ.1 JN).1) Dt;rw [e0] at hk;refine .inr ⟨i,o0,?_,hk,?_,?_⟩
     ·rw [xz CS];rw [u8,xz CS] at e0;exact congrArg some e0
     ·rw [Eh Bi,RV JN]
     ·obtain ⟨k2,e1,e2⟩:=Iu (yJ.1 JN).1;rw [e2];exact yK (JN.symm.trans e1)
    ·rename_i hi;refine .inl ⟨Bi,hi,?_,Eh Bi⟩;rw [xz Bi];rw [u8,xz Bi] at hk;exact congrArg some hk
   ·unfold Cf at hk;rw [yh (by simp;omega),yS,zm] at hk;simp only [yr,zAF] at hk;cases hx:h'[σ.length+(k-H.length)]? with
    | none=>rw [hx] at hk;cases hk
    | some x=>
     rw [hx] at hk;have hk:Ca σ H.length x=some o':=yK hk;obtain ⟨o0,e0⟩:=MZ hk;subst e0;refine .inr ⟨σ.length+(k-H.length),o0,hx,hk,?_,?_⟩
     ·rw [Fl,yh (by rw [HR.len];omega),zm,HR.len]
     ·unfold CZ;rw [yM (by omega)];omega
  have back: ∀ {k:Nat} {o:DO},Cj σ k=none -> H[k]? =some (some o) -> (Cf H σ h')[k]? =some (some o):=by
   intro k o hk ho;have Bi:=(yJ.1 ho).1;unfold Cf;rw [yW (by simpa using Bi),yS,zy Bi];simp only [yi,hk,UN ho]
  have apart: ∀ {k:Nat} {o:DO} {p:AI} {b:Nat},Cj σ k=none -> H[k]? =some (some o) -> ρ[k]? =some p -> p.foot b -> ¬ MO h' ρ1 b:=fun {k o p b} q1 q2 q3 q4 hm=>by
   rcases g3.grow b hm with hg | hg
   ·exact foreign q1 q2 q3 q4 hg
   ·exact absurd (HR.lt (.inr ⟨k,o,p,q2,q3,q4⟩)) (Nat.not_lt.2 hg)
  have grow: ∀ b,MO (Cf H σ h') ρ' b -> MO H ρ b∨w.heap.size<=b:=by
   rintro b ⟨k,o',p,q1,q2,q3⟩;rcases Fy q1 with ⟨a1,a2,a3,a4⟩ | ⟨i,o,a1,a2,a3,a4⟩
   ·exact .inl ⟨k,o',p,a3,a4.symm.trans q2,q3⟩
   ·exact (g3.grow b ⟨i,o,p,a1,a3.symm.trans q2,q3⟩).imp (Gs b) id
  have pl: ∀ (k:Nat) (p:AI),ρ[k]? =some p -> ρ'[k]? =some p:=fun k p hp=>by
   rw [Fl,yW (yJ.1 hp).1];exact hp
  have O:BM (MS N H ρ) w ρ (MS N (Cf H σ h') ρ') w' ρ':=
   ⟨fun b hb hm _=>g3.upd.block b hb fun hx=>hm (.inr (Gs b hx)),fun b hb=>hb.elim (fun hb=>.inl (.inl hb)) (fun hb=>(grow b hb).imp .inr id),pl⟩
  refine ⟨v,rfl,⟨⟨ρ',⟨?_,fun k o' hk=>?_,fun k o' p b q1 q2 q3=>?_,fun k k' o1 o2 p1 p2 b AV q1 q2 q3 q4 q5 q6=>?_,fun b hb=>⟨yN (HR.nlt b hb).1 g3.upd.size,(HR.nlt b hb).2⟩,g1.gi⟩,a7 OS _ re g2,⟨g3.upd.mono fun b _ hb=>Gs b hb,grow⟩,pl⟩,g5⟩⟩
  ·rw [Wu,Fl];simp [HR.len,l1]
  ·rcases Fy hk with ⟨a1,a2,a3,a4⟩ | ⟨i,o,a1,a2,a3,a4⟩
   ·obtain ⟨p,hp,hr⟩:=HR.obj k o' a3;refine ⟨p,a4.trans hp,hr.out O g3.upd (fun b hb=>.inr (Gs b hb)) fun b _ hf hs=>?_⟩;exact foreign a2 a3 hp hf hs
   ·obtain ⟨p,hp,hr⟩:=g1.obj i o a1;exact ⟨p,a3.trans hp,kR OS (yL.1 rZ _ (yn a1)) a2 hr⟩
  ·rcases Fy q1 with ⟨a1,a2,a3,a4⟩ | ⟨i,o,a1,a2,a3,a4⟩
   ·have hp:=a4.symm.trans q2;obtain ⟨c1,c2,c,t,z,c3⟩:=HR.cel k o' p b a3 hp q3;refine ⟨c1,c2,c,t,z,(g3.upd.block b (yE.1 c3).1 fun hx=>?_).trans c3⟩;exact foreign a2 a3 hp q3 hx
   ·obtain ⟨c1,c2,c3⟩:=g1.cel i o p b a1 (a3.symm.trans q2) q3;refine ⟨c1,fun hb=>?_,c3⟩;rcases g3.grow b ⟨i,o,p,a1,a3.symm.trans q2,q3⟩ with hg | hg
    ·obtain ⟨k2,o2,p2,d1,d2,d3⟩:=Gs b hg;exact (HR.cel k2 o2 p2 b d1 d2 d3).2.1 hb
    ·exact absurd (HR.nlt b hb).1 (Nat.not_lt.2 hg)
  ·rcases Fy q1 with ⟨a1,a2,a3,a4⟩ | ⟨i,o,a1,a2,a3,a4⟩
   ·rcases Fy q2 with ⟨c1,c2,c3,c4⟩ | ⟨i',o',c1,c2,c3,c4⟩
    ·exact HR.dis k k' o1 o2 p1 p2 b AV a3 c3 (a4.symm.trans q3) (c4.symm.trans q4) q5 q6
    ·exact apart a2 a3 (a4.symm.trans q3) q5 ⟨i',o',p2,c1,c3.symm.trans q4,q6⟩
   ·rcases Fy q2 with ⟨c1,c2,c3,c4⟩ | ⟨i',o',c1,c2,c3,c4⟩
    ·exact apart c2 c3 (c4.symm.trans q4) q6 ⟨i,o,p1,a1,a3.symm.trans q3,q5⟩
    ·refine g1.dis i i' o o' p1 p2 b ?_ a1 c1 (a3.symm.trans q3) (c3.symm.trans q4) q5 q6;rintro rfl;exact AV (a4.trans c4.symm)
end
theorem Ja.own {h:DH} {σ:List Nat} {j:Nat} {f:Int -> List Int} {x:Int} {L:List Int} {g:Bool} (hk:h[j]? =some (some (.mo (.rows f (some (x,L,g)))))) (hj:σ.contains j=false):Ja h σ (.mri j 1) (.ints L):=by
 rintro P Γ N ρ w v H ⟨p,vs,hp,F4,DE⟩;obtain ⟨p',A6,u,es,AR,hA⟩:=H.obj j _ hk;have:p'=p:=yK (A6.symm.trans hp);subst this;have e: #[Value.map (some p'.blk),u]=vs:=by have:=hA.val.symm.trans F4;cases this;rfl
 subst e;have ev:v=u:=by simpa using DE.symm
 subst ev;rcases (hA.inHand x L g rfl).1 with ⟨rfl,rfl⟩ | ⟨q,cap,rfl,h1,h2,h3,h4,h5⟩
 ·exact ⟨none,0,rfl,yf _,zz _,fun j hj=>absurd hj (yT j)⟩
 ·refine ⟨_,cap,rfl,h1,h3,fun i hi=>⟨q.blk,q.off,rfl,?_,?_⟩⟩
  ·rintro ⟨k,o,p2,g1,g2,g3,g4⟩;refine H.dis k j o _ p2 p' q.blk (fun e=>?_) g2 hk g3 hp g4 h4.1;subst e;have:=zr.2 g1;rw [this] at hj;cases hj
  ·obtain ⟨u,e1,e2⟩:=AS.cell h5 hi;rw [e1,e2]
def TP (H:DH) (σ:List Nat):List DV -> List DV -> Prop
 | [],[]=>True
 | d1::Df,d::ds=>(d1=up σ H.length d∨Ja H σ d1 d)/\ TP H σ Df ds
 | _,_=>False
theorem Wo {H:DH} {σ:List Nat}: ∀ {Df ds:List DV},TP H σ Df ds -> Df.length=ds.length/\ ∀ i,i<ds.length -> Df.getD i .any=up σ H.length (ds.getD i .any)∨Ja H σ (Df.getD i .any) (ds.getD i .any)
 | [],[],_=>⟨rfl,fun i hi=>absurd hi (yT i)⟩
 | d1::Df,d::ds,⟨h1,h2⟩=>by
  obtain ⟨g1,g2⟩:=Wo h2;refine ⟨by simp [g1],fun i hi=>?_⟩;cases i with
  | zero=>exact h1
  | succ i=>exact g2 i (by simpa using hi)
 | [],_::_,h=>h.elim
 | _::_,[],h=>h.elim
theorem ES.embedSB {P:Program} {Γ:Au} {f:Nat} {ds:List DV} {h:DH} {d:DV} {h':DH} {ext:Bool} (EC:ES P Γ f ds h d h' ext) (σ:List Nat) (H:DH) {Df:List DV} (ha:TP H σ Df ds) (hb:Kc σ H.length h.length h'.length=true) (hh:(σ.map fun k=>H.getD k none)=h.map (Ca σ H.length)) (hs:(HM d&&h'.all Om)=true):
 ES P Γ f Df H (up σ H.length d) (Cf H σ h') ext:=by
 simp only [Kc,yG,yg,yL] at hb;rw [yG] at hs;exact EC.embedS σ H hb.1.1.1 (fun k hk=>hb.1.1.2 k hk) hb.1.2 hb.2 hh (Wo ha).1 (Wo ha).2 hs.1 hs.2
end Go.Proofs.YtekkngkphejfcaaGreatDoor
