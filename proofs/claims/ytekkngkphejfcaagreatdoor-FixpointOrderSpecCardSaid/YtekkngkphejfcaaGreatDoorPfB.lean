/- Part 2 of 7 of what the proofs of these laws stand on. -/
import Derived.Test.YtekkngkphejfcaaGreatDoorPfA
import Derived.Test.YtekkngkphejfcaaGreatDoorProg
import Derived.Shelf.Spec.TrailingZeros
set_option linter.all false
namespace Go.Proofs.YtekkngkphejfcaaGreatDoor
abbrev zE7:=@List.getElem?_replicate
abbrev zGS:=@Array.getElem?_replicate
end Go.Proofs.YtekkngkphejfcaaGreatDoor
namespace Go.Proofs.YtekkngkphejfcaaGreatDoor
open Go.RowKit
def WY (P:Program) (t:TypeId):Option (Nat×TypeId×TypeInfo):=match P.underlying t with
 | some (.slice e)=>match NZ P e with
  | some (n,_)=>match P.info? e with
   | some i=>match i.zero with
    | some (.map none)=>if i.size=1/\ i.bytes<=128 then some (n,e,i) else none
    | _=>none
   | none=>none
  | none=>none
 | _=>none
theorem xf {P:Program} {t e:TypeId} {n:Nat} {i:TypeInfo} (h:WY P t=some (n,e,i)):P.underlying t=some (.slice e)/\ P.info? e=some i/\ i.zero=some (.map none)/\ i.size=1/\ i.bytes<=128:=by
 unfold WY at h;split at h
 ·rename_i e' hu;split at h
  ·split at h
   ·rename_i i' hi;split at h
    ·rename_i hz;split at h
     ·rename_i hc;cases h;exact ⟨hu,hi,hz,hc.1,hc.2⟩
     ·cases h
    ·cases h
   ·cases h
  ·cases h
 ·cases h
section
variable {P:Program} {Γ:A6} {N:Nat -> Prop} {S:St} {ρ:List AN} {a:Act} {w:World} {h:DH}
theorem ub {α:Type} {n j:Nat} {x y:α} (h:(List.replicate n x)[j]? =some y):x=y:=by
 rw [zE7] at h;split at h
 ·exact zBK h
 ·cases h
theorem xl (R:An P Γ N S ρ a w) {t e:TypeId} {x y:Operand} {n:Nat} {i:TypeInfo} {kx ky:IntKind} {m:Int} (hT:WY P t=some (n,e,i)) (hx:Ao S.fr x= .int kx m) (hy:Ao S.fr y= .int ky m)
 (hn:0<=m/\ m<=1000000000000) (o:Oper) (ho:o.op= .makeSlice t x y) (ext:Bool):
 Bb P (execOp a.eval o) w (DY P Γ N S.h ρ w ext (.msl S.h.length 1 0 m.toNat) (S.h++[some (.mo (.sets n (List.replicate m.toNat none) none))])):=by
 obtain ⟨hu,hi,hz,hs,E6⟩:=xf hT;have H7:=hn.1;have Jr:=hn.2;have rx:=Bx R x;have ry:=Bx R y;rw [hx] at rx;rw [hy] at ry;have D8:(madeCells (Value.map none).cells (m.toNat*i.size)).size=m.toNat:=by rw [size_madeCells,hs,zE0]
 have DS: ∀ j,j<m.toNat -> (madeCells (Value.map none).cells (m.toNat*i.size))[j]? =some (Value.map none):=fun j hj=>by
  simp [madeCells,hs,hj,Value.cells,Nat.mod_one]
 refine Bb.value (s:=Instr.makeSlice t (a.eval x) (a.eval y)) (by unfold execOp;rw [ho]) (v:=.slice (some ⟨w.heap.size,0,none⟩) m.toNat m.toNat) (w':=w.alloc (.cells (madeCells (Value.map none).cells (m.toNat*i.size)) e)) ?_ ?_
 ·rw [show a.eval x=_ from rx,show a.eval y=_ from ry];refine run_make w t e i _ hu hi hz kx ky m m H7 (zCH _) ?_ (by omega);have:(i.bytes:Int)*m<=128*1000000000000:=Int.mul_le_mul (by omega) Jr H7 (by omega);omega
 ·generalize hC:madeCells (Value.map none).cells (m.toNat*i.size)=cs at D8 DS ⊢
  refine Xa (ob:=.cells cs e) (o:=.mo (.sets n (List.replicate m.toNat none) none)) (d:=.msl S.h.length 1 0 m.toNat) (pl:=⟨w.heap.size,0,cs.size,.tuple (Array.replicate m.toNat (Value.map none)),fun b=>b=w.heap.size⟩) R.hr rfl rfl (fun M ρ'=>?_) (fun M ρ' hp=>⟨_,m.toNat,hp,by simp,zBa _,by unfold LB;omega,by simp [D8]⟩) ext;refine ⟨Array.replicate m.toNat (Value.map none),rfl,by simp,⟨cs,e,zF3 w _,by simp [D8],zBa _,fun j hj=>?_⟩,rfl,fun j l hj=>?_,fun j hj=>?_,fun b hb=>.inl hb,fun i j b h1 h2=>?_⟩
  ·rw [zCD] at hj
   show cs[0+j]? =_
   rw [zBj,DS j hj,zGS,zAE hj]
  ·have:=ub hj;cases this
  ·have BI:=(zBN.1 hj).1;rw [zCD] at BI;rw [zGS,zAE BI]
  ·rw [zGS] at h1;split at h1 <;> cases h1
theorem BX.merge (H:BX P Γ N h ρ w) {w':World} {k j:Nat} {o oj o':DO} {p q p':AN} (cW:k≠j) (hk:h[k]? =some (some o)) (hp:ρ[k]? =some p) (hj:h[j]? =some (some oj)) (hq:ρ[j]? =some q) (hu:AV p.foot w w') (hf: ∀ b,p'.foot b -> (p.foot b∨q.foot b)/\ EG w' b)
 (ho:DD P (MS N ((h.set k none).set j none++[some o']) (ρ++[p'])) w' (ρ++[p']) p' o'):
 BX P Γ N ((h.set k none).set j none++[some o']) (ρ++[p']) w'/\ BL h ρ w ((h.set k none).set j none++[some o']) (ρ++[p']) w':=by
 have Ak:((h.set k none).set j none).length=h.length:=by simp
 have hM: ∀ b,p.foot b -> MO h ρ b:=fun b hb=>⟨k,o,p,hk,hp,hb⟩
 have hMq: ∀ b,q.foot b -> MO h ρ b:=fun b hb=>⟨j,oj,q,hj,hq,hb⟩
 have n5: ∀ {i:Nat} {o1:DO},((h.set k none).set j none)[i]? =some (some o1) -> i≠k/\ i≠j/\ h[i]? =some (some o1):=fun {i o1} hi=>by
  obtain ⟨e1,e2⟩:=F4 hi;obtain ⟨e3,e4⟩:=F4 e2;exact ⟨e3,e1,e4⟩
 have Il: ∀ {i:Nat} {o1:DO} {p1:AN},((h.set k none).set j none++[some o'])[i]? =some (some o1) -> (ρ++[p'])[i]? =some p1 -> (i≠k/\ i≠j/\ i<h.length/\ h[i]? =some (some o1)/\ ρ[i]? =some p1)∨(i=h.length/\ o1=o'/\ p1=p'):=by
  intro i o1 p1 h1 h2;rcases DT h1 with ⟨hl,h1⟩ | ⟨hl,h1⟩
  ·rw [Ak] at hl;rcases DT h2 with ⟨_,h2⟩ | ⟨Ch,_⟩
   ·obtain ⟨e1,e2,e3⟩:=n5 h1;exact .inl ⟨e1,e2,hl,e3,h2⟩
   ·rw [H.len] at Ch;omega
  ·rw [Ak] at hl;rcases DT h2 with ⟨Ch,_⟩ | ⟨_,h2⟩
   ·rw [H.len] at Ch;omega
   ·cases h1;exact .inr ⟨hl,rfl,h2.symm⟩
 have grow: ∀ b,MO ((h.set k none).set j none++[some o']) (ρ++[p']) b -> MO h ρ b:=by
  rintro b ⟨i,o1,p1,h1,h2,h3⟩;rcases Il h1 h2 with ⟨_,_,_,g1,g2⟩ | ⟨_,_,rfl⟩
  ·exact ⟨i,o1,p1,g1,g2,h3⟩
  ·exact (hf b h3).1.elim (hM b) (hMq b)
 have O:Ba (MS N h ρ) w ρ (MS N ((h.set k none).set j none++[some o']) (ρ++[p'])) w' (ρ++[p']):=
  ⟨fun b hb hm _=>hu.block b hb fun hx=>hm (.inr (hM b hx)),fun b hb=>.inl (hb.imp id (grow b)),fun i q hi=>D9 hi⟩
 refine ⟨⟨by simp [H.len],fun i o1 hi=>?_,fun i o1 p1 b h1 h2 h3=>?_,fun i i' o1 o2 p1 p2 b AY h1 h2 h3 h4 h5 h6=>?_,fun b hb=>⟨zBY (H.nlt b hb).1 hu.size,(H.nlt b hb).2⟩,Γ.st _ _ H.gi (hu.mono fun b _ hb=>(H.cel k o p b hk hp hb).1)⟩,⟨hu.mono fun b _ hb=>hM b hb,fun b hb=>.inl (grow b hb)⟩⟩
 ·rcases DT hi with ⟨hl,hi⟩ | ⟨hl,hi⟩
  ·obtain ⟨e1,e2,e3⟩:=n5 hi;obtain ⟨p1,Lw,hr⟩:=H.obj i o1 e3;exact ⟨p1,D9 Lw,hr.out O hu (fun b hb=>.inr (hM b hb)) fun b _ h1 h2=>H.dis i k o1 o p1 p b e1 e3 hk Lw hp h1 h2⟩
  ·cases hi;exact ⟨p',by rw [hl,Ak,←H.len];simp,ho⟩
 ·rcases Il h1 h2 with ⟨AY,_,_,g1,g2⟩ | ⟨_,_,rfl⟩
  ·obtain ⟨e1,e2,c,t,z,e3⟩:=H.cel i o1 p1 b g1 g2 h3;exact ⟨e1,e2,c,t,z,(hu.block b (zBG.1 e3).1 fun hx=>H.dis i k o1 o p1 p b AY g1 hk g2 hp h3 hx).trans e3⟩
  ·obtain ⟨e1,e2⟩:=hf b h3;rcases e1 with e1 | e1
   ·obtain ⟨q1,q2,_⟩:=H.cel k o p b hk hp e1;exact ⟨q1,q2,e2⟩
   ·obtain ⟨q1,q2,_⟩:=H.cel j oj q b hj hq e1;exact ⟨q1,q2,e2⟩
 ·have key: ∀ {i o1 p1},i≠k -> i≠j -> h[i]? =some (some o1) -> ρ[i]? =some p1 -> p1.foot b -> p'.foot b -> False:=fun {i o1 p1} AY Nw g1 g2 g3 g4=>by
   rcases (hf b g4).1 with e1 | e1
   ·exact H.dis i k o1 o p1 p b AY g1 hk g2 hp g3 e1
   ·exact H.dis i j o1 oj p1 q b Nw g1 hj g2 hq g3 e1
  rcases Il h1 h3 with ⟨TQ,Nw,_,g1,g2⟩ | ⟨e1,_,rfl⟩
  ·rcases Il h2 h4 with ⟨hne3,_,_,g3,g4⟩ | ⟨e2,_,rfl⟩
   ·exact H.dis i i' o1 o2 p1 p2 b AY g1 g3 g2 g4 h5 h6
   ·exact key TQ Nw g1 g2 h5 h6
  ·rcases Il h2 h4 with ⟨TQ,Nw,_,g1,g2⟩ | ⟨e2,_,rfl⟩
   ·exact key TQ Nw g1 g2 h6 h5
   ·exact AY (e1.trans e2.symm)
def Lp (k k':Nat):DV -> DV
 | .msl k1 m o n=>if k1=k then .msl k' m o n else .msl k1 m o n
 | d=>d
def Y8 (P:Program) (S:St) (o:Oper):Option (St×List Prop):=match o.op with
 | .store t x y=>match o.dst with
  | none=>match Ao S.fr x with
   | .mp k 1 i 0=>match Ao S.fr y with
    | .it j=>match S.h[k]? with
     | some (some (.mo (.sets n ls none)))=>match S.h[j]? with
      | some (some (.mo (.set n' l)))=>if n'=n/\ (P.info? t).any (fun i=>i.size==1)=true then some (⟨S.fr.map (Lp k S.h.length),(S.h.set k none).set j none++[some (.mo (.sets n (ls.set i (some l)) none))]⟩,[i<ls.length]) else none
      | _=>none
     | _=>none
    | _=>none
   | _=>none
  | some _=>none
 | _=>none
theorem FC.of_map {p:AN} {n:Nat} {ls:List (Option KS)} {lk:Option (Nat×Nat×Array MapEntry×Nat)} {vs:Array Value} (hS:FC w p n ls lk vs) {i b:Nat} (h:vs[i]? =some (Value.map (some b))): ∃ l,ls[i]? =some (some l)/\ p.foot b/\ b≠p.blk/\ ∃ es Ad,Ez w b n l es Ad:=by
 have hi:i<ls.length:=by rw [←hS.size];exact (zBG.1 h).1
 cases hl:ls[i] with
 | none=>
  have:=hS.nil i (by rw [zBD hi,hl]);rw [this] at h;cases h
 | some l=>
  have Ck:ls[i]? =some (some l):=by rw [zBD hi,hl]
  obtain ⟨b',g1,g2,g3,es,Ad,g4,_⟩:=hS.has i l Ck;have:b'=b:=by rw [g1] at h;cases h;rfl
  subst this;exact ⟨l,Ck,g3,g2,es,Ad,g4⟩
theorem rL (R:An P Γ N S ρ a w) {o:Oper} {S':St} {vs:List Prop} (h:Y8 P S o=some (S',vs)) (hv:Bo vs):
 Bb P (execOp a.eval o) w (fun v w'=>(∃ ρ',An P Γ N S' ρ' (a.put o.dst v) w'/\ Ew S.h ρ w S'.h ρ' w')/\ ∃ k i p t x y,o.op= .store t x y/\ Ao S.fr x= .mp k 1 i 0/\ ρ[k]? =some p/\ AV p.foot w w'):=by
 unfold Y8 at h;split at h
 case h_2=>cases h
 rename_i t x y ho;split at h
 case h_2=>cases h
 rename_i zBt;split at h
 case h_2=>cases h
 rename_i k i hX;split at h
 case h_2=>cases h
 rename_i j hY;split at h
 case h_2=>cases h
 rename_i n ls hK;split at h
 case h_2=>cases h
 rename_i n' l hJ;split at h
 case isFalse=>cases h
 rename_i hc;cases h;obtain ⟨Pw,A9⟩:=hc;subst Pw;have hi:i<ls.length:=hv.1;have rx:=Bx R x;have ry:=Bx R y;rw [hX] at rx;rw [hY] at ry;obtain ⟨p,hp,ex⟩:=rx;obtain ⟨q,es,Ad,hq,ey,mi,hqv,hA⟩:=ZI R hJ ry;obtain ⟨p',BE,Me,hS⟩:=R.hr.obj k _ hK;have:p'=p:=zBK (BE.symm.trans hp);subst this;have cW:k≠j:=fun e=>by subst e;rw [hK] at hJ;cases hJ
 obtain ⟨cs,ty,hb,F1,Ch,DS⟩:=hS.row;cases bu:P.info? t with
 | none=>rw [bu] at A9;cases A9
 | some ti=>
 rw [bu] at A9;have Pk:ti.size=1:=by simpa using A9
 have nD:i<Me.size:=by rw [hS.size];exact hi
 have b9: ∀ b,p'.foot b -> b≠q.blk:=fun b hb e=>R.hr.dis k j _ _ p' q b cW hK hJ hp hq hb (by rw [mi];exact e)
 have ex':a.eval x= .pointer (some ⟨p'.blk,p'.off+i,none⟩):=by rw [ex];simp
 have BU:w.cell? ⟨p'.blk,p'.off+i,none⟩=some Me[i]:=by
  unfold World.cell?;simp only [hb];rw [DS i hi,zE9 nD];rfl
 have It: ∀ jj,w.frozen? ⟨p'.blk,jj,none⟩=false:=fun jj=>by unfold World.frozen?;simp [hb]
 have hU:AV p'.foot w (w.setCells p'.blk (p'.off+i) (a.eval y).cells.toList):=(Qv _ _ _ _).mono fun b _ e=>by rw [show b=p'.blk from e];exact hS.blk
 refine Bb.skip (s:=Instr.storeAt t (a.eval x) (a.eval y)) (by unfold execOp;rw [ho]) (w':=w.setCells p'.blk (p'.off+i) (a.eval y).cells.toList) ?_ ?_
 ·rw [ex'];refine iP bu (by rw [ey,Pk];rfl) (fun jj TX=>?_) It (fun u hu=>?_)
  ·rw [ey] at TX;have:jj=0:=by simpa [Value.cells] using TX
   subst this;rw [zF5,BU];rfl
  ·rw [ey] at hu;have:u= .map (some q.blk):=by simpa [Value.cells] using hu
   subst this;rfl
 ·rw [zBt];rw [ey] at hU ⊢;have eC:(Value.map (some q.blk)).cells.toList= [Value.map (some q.blk)]:=rfl;rw [eC] at hU ⊢;obtain ⟨E9,e1,e2,e3⟩:=Td p'.blk ty (0,0) [Value.map (some q.blk)] (p'.off+i) w cs hb (by simp;omega)
  generalize hW:w.setCells p'.blk (p'.off+i) [Value.map (some q.blk)]=W at hU e1 ⊢
  have at_: ∀ {b ob},b≠p'.blk -> w.heap[b]? =some ob -> W.heap[b]? =some ob:=fun {b ob} AY C8=>by
   rw [←C8,←hW];exact (Qv p'.blk [Value.map (some q.blk)] (p'.off+i) w).block b (zBG.1 C8).1 AY
  have j5:q.blk≠p'.blk:=fun e=>b9 p'.blk hS.blk e.symm
  let Bz:=Me.setIfInBounds i (Value.map (some q.blk))
  have H3: ∀ m:Nat,Bz[m]? =if i=m then some (Value.map (some q.blk)) else Me[m]? :=fun m=>by
   show (Me.setIfInBounds i _)[m]? =_
   rw [zFO]
   by_cases e:i=m
   ·rw [zAE e,zAE e,zAE nD]
   ·rw [zBP e,zBP e]
  let p2:AN:=⟨p'.blk,p'.off,p'.room,.tuple Bz,fun b=>b=p'.blk∨∃ m:Nat,Bz[m]? =some (Value.map (some b))⟩
  have lg: ∀ {m:Nat} {z:Option KS},(ls.set i (some l))[m]? =some z -> (m=i/\ z=some l)∨(m≠i/\ ls[m]? =some z):=fun {m z} hm=>by
   rw [zCb] at hm
   by_cases e:i=m
   ·subst e;simp [hi] at hm;exact .inl ⟨rfl,hm.symm⟩
   ·rw [zBP e] at hm;exact .inr ⟨zGK e,hm⟩
  have SA:FC W p2 n' (ls.set i (some l)) none Bz:=by
   refine ⟨rfl,by simp [Bz,hS.size],⟨E9,ty,e1,by simpa [e2] using F1,by rw [e2];exact Ch,fun m hm=>?_⟩,.inl rfl,fun m l1 hm=>?_,fun m hm=>?_,fun b hb=>?_,fun m m' b h1 h2=>?_⟩
   ·rw [zBo] at hm
    show E9[p'.off+m]? =Bz[m]?
    rw [e3,H3]
    by_cases e:i=m
    ·subst e;rw [zAE (by simp),zAE rfl];simp
    ·rw [zBP (by simp;omega),zBP e];exact DS m hm
   ·rcases lg hm with ⟨rfl,e⟩ | ⟨AY,hm⟩
    ·cases e;refine ⟨q.blk,by rw [H3,zAE rfl],j5,.inr ⟨m,by rw [H3,zAE rfl]⟩,es,Ad,{ hA with blk:=at_ j5 hA.blk },fun x hx=>by cases hx⟩
    ·obtain ⟨b,k1,k2,k3,ID,c1,k4,_⟩:=hS.has m l1 hm;exact ⟨b,by rw [H3,zBP (zGK AY)];exact k1,k2,.inr ⟨m,by rw [H3,zBP (zGK AY)];exact k1⟩,ID,c1,{ k4 with blk:=at_ k2 k4.blk },fun x hx=>by cases hx⟩
   ·rcases lg hm with ⟨rfl,e⟩ | ⟨AY,hm⟩
    ·cases e
    ·rw [H3,zBP (zGK AY)];exact hS.nil m hm
   ·rcases hb with hb | ⟨m,hm⟩
    ·exact .inl hb
    ·refine .inr ?_;have AB:=hm;rw [H3] at hm
     by_cases e:i=m
     ·subst e;exact ⟨i,l,by simp [hi],AB⟩
     ·rw [zBP e] at hm;obtain ⟨l1,g1,_⟩:=hS.of_map hm;exact ⟨m,l1,by rw [zCb,zBP e];exact g1,AB⟩
   ·rw [H3] at h1 h2
    by_cases c1:i=m
    ·by_cases c2:i=m'
     ·omega
     ·rw [zAE c1] at h1;rw [zBP c2] at h2;cases h1;obtain ⟨_,_,g2,_⟩:=hS.of_map h2;exact absurd rfl (b9 _ g2)
    ·rw [zBP c1] at h1
     by_cases c2:i=m'
     ·rw [zAE c2] at h2;cases h2;obtain ⟨_,_,g2,_⟩:=hS.of_map h1;exact absurd rfl (b9 _ g2)
     ·rw [zBP c2] at h2;exact hS.inj m m' b h1 h2
  have D7: ∀ b,p2.foot b -> (p'.foot b∨q.foot b)/\ EG W b:=fun b hb=>by
   refine ⟨?_,SA.lies hb⟩;rcases hb with hb | ⟨m,hm⟩
   ·exact .inl (by rw [hb];exact hS.blk)
   ·rw [H3] at hm
    by_cases e:i=m
    ·rw [zAE e] at hm;cases hm;exact .inr (by rw [mi])
    ·rw [zBP e] at hm;exact .inl (hS.of_map hm).choose_spec.2.1
  obtain ⟨g1,g2⟩:=R.hr.merge (o':=.mo (.sets n' (ls.set i (some l)) none)) (p':=p2) cW hK hp hJ hq hU D7 ⟨Bz,SA⟩
  have O:Ba (MS N S.h ρ) w ρ (MS N ((S.h.set k none).set j none++[some (.mo (.sets n' (ls.set i (some l)) none))]) (ρ++[p2])) W (ρ++[p2]):=
   ⟨fun b hb hm _=>hU.block b hb fun hx=>hm (.inr ⟨k,_,p',hK,hp,hx⟩),fun b hb=>hb.elim (fun h=>.inl (.inl h)) (fun h=>(g2.grow b h).imp .inr id),fun k q hk=>D9 hk⟩
  refine ⟨⟨ρ++[p2],⟨g1,by simp [R.fr.1,Act.put],fun m hm=>?_⟩,g2,fun k q hk=>D9 hk⟩,k,i,p',t,x,y,ho,hX,hp,hU⟩;have CB:m<S.fr.length:=by simpa using hm
  have e:(S.fr.map (Lp k S.h.length)).getD m .any=Lp k S.h.length (S.fr.getD m .any):=by simp [CB]
  show AQ _ W ((S.fr.map (Lp k S.h.length)).getD m .any) _ _
  rw [e];have r0:=R.fr.2 m CB;cases hd:S.fr.getD m .any with
  | msl k1 m1 o1 n1=>
   rw [hd] at r0
   by_cases hc:k1=k
   ·have e2:Lp k S.h.length (.msl k1 m1 o1 n1)= .msl S.h.length m1 o1 n1:=by simp only [Lp,zAE hc]
    rw [e2];rw [hc] at r0;obtain ⟨q0,cap,Pr,bs,u1,u2,u3⟩:=r0;have eq0:q0=p':=zBK (Pr.symm.trans hp);subst eq0;exact ⟨p2,cap,by rw [←R.hr.len];simp,bs,u1,u2,u3⟩
   ·have e2:Lp k S.h.length (.msl k1 m1 o1 n1)= .msl k1 m1 o1 n1:=by simp only [Lp,zBP hc]
    rw [e2];exact AQ.out _ O r0
  | _=>rw [hd] at r0;exact AQ.out _ O r0
end
end Go.Proofs.YtekkngkphejfcaaGreatDoor
namespace Go.Proofs.YtekkngkphejfcaaGreatDoor
abbrev zGB:=@List.mem_iff_getElem?
abbrev zGC:=@Array.getElem?_toList
abbrev zGq:=@Array.mem_toList_iff
end Go.Proofs.YtekkngkphejfcaaGreatDoor
namespace Go.Proofs.YtekkngkphejfcaaGreatDoor
open Go.RowKit
def Qz:DV:=.tup 0 (fun j=>([]:List DV).getD j .any)
theorem Uv {M:Nat -> Prop} {w:World} {ρ:List AN}:AQ M w Qz ρ undef:=⟨#[],rfl,rfl,fun j hj=>absurd hj (zBW j)⟩
def FG (fr:List DV) (dst:Option Nat) (d:DV):List DV:=match dst with
 | some t=>fr.set t d
 | none=>fr
section
variable {P:Program} {Γ:A6} {N:Nat -> Prop} {S:St} {ρ:List AN} {a:Act} {w:World}
theorem JP (R:An P Γ N S ρ a w) (dst:Option Nat) {d:DV} {v:Value} (hv:AQ (MS N S.h ρ) w d ρ v):An P Γ N ⟨FG S.fr dst d,S.h⟩ ρ (a.put dst v) w:=by
 refine ⟨R.hr,?_⟩;cases dst with
 | none=>exact R.fr
 | some t=>exact R.fr.set t hv
theorem Tl (R:An P Γ N S ρ a w) {d d':DV} {h':DH} {ext:Bool} {v:Value} {w':World} (dst:Option Nat) (G:DY P Γ N S.h ρ w ext d h' v w') (hd: ∀ M ρ',AQ M w' d ρ' v -> AQ M w' d' ρ' v):
 ∃ ρ',An P Γ N ⟨FG S.fr dst d',h'⟩ ρ' (a.put dst v) w'/\ Ew S.h ρ w h' ρ' w':=by
 obtain ⟨ρ',g1,g2,g3,g4⟩:=G.ex;have O:Ba (MS N S.h ρ) w ρ (MS N h' ρ') w' ρ':=⟨fun b hb hm _=>g3.upd.block b hb fun hx=>hm (.inr hx),fun b hb=>hb.elim (fun h=>.inl (.inl h)) (fun h=>(g3.grow b h).imp .inr id),g4⟩;have R':An P Γ N ⟨S.fr,h'⟩ ρ' a w':=⟨g1,R.fr.out O⟩;exact ⟨ρ',JP R' dst (hd _ _ g2),g3,g4⟩
end
def Re (P:Program) (t:TypeId):Option (TypeId×TypeId):=match P.underlying t with
 | some (.map k e)=>if TB P k then match P.info? e with
  | some i=>match i.zero with
   | some (.slice none 0 0)=>some (k,e)
   | _=>none
  | none=>none
  else none
 | _=>none
theorem iX {P:Program} {t k e:TypeId} (h:Re P t=some (k,e)):P.underlying t=some (.map k e)/\ GN P k=some 1/\ ∀ w,(zeroValue e).run P w= .ok (.slice none 0 0) w:=by
 unfold Re at h;split at h
 ·rename_i k' e' hu;split at h
  ·rename_i hk;split at h
   ·rename_i i hi;split at h
    ·rename_i hz;cases h;exact ⟨hu,by unfold GN;rw [bM hk],fun w=>by simp [zeroValue,typeInfo,hi,hz]⟩
    ·cases h
   ·cases h
  ·cases h
 ·cases h
def PT (j q:Nat):DV -> DV
 | .mri k i=>if k=j then (if i=0 then .mri q 0 else .any) else .mri k i
 | d=>d
def G3 (f:Int -> List Int) (k:Int) (L:List Int):Int -> List Int:=fun x=>if x=k then L else f x
def Rf (P:Program) (S:St) (o:Oper):Option (St×List Prop):=match o.op with
 | .makeMap t none=>match Re P t with
  | some _=>some (⟨FG S.fr o.dst (.mri S.h.length 0),S.h++[some (.mo (.rows (fun _=>[]) none))]⟩,[])
  | none=>none
 | .lookup t m k false=>match Re P t with
  | some _=>match Ao S.fr m,Ao S.fr k with
   | .mri j 0,.int .i64 x=>match S.h[j]? with
    | some (some (.mo (.rows f DU)))=>if DU.all (fun y=>!y.2.2) then some (⟨FG (S.fr.map (PT j S.h.length)) o.dst (.mri S.h.length 1),S.h.set j none++[some (.mo (.rows f (some (x,f x,false))))]⟩,[]) else none
    | _=>none
   | _,_=>none
  | none=>none
 | .mapUpdate t m k y=>match Re P t with
  | some _=>match Ao S.fr m,Ao S.fr k,Ao S.fr y with
   | .mri j 0,.int .i64 x,.mri j' 1=>match S.h[j]? with
    | some (some (.mo (.rows f (some (x',L,_)))))=>if j'=j then some (⟨FG S.fr o.dst Qz,S.h.set j (some (.mo (.rows (G3 f x' L) none)))⟩,[x'=x]) else none
    | _=>none
   | _,_,_=>none
  | none=>none
 | .call c=>match c.callee with
  | .builtin .append=>match c.args.toList with
   | [x,y]=>match c.argTypes.toList with
    | [t,t']=>if t=t' then match MH P t with
     | some (.ints,_,i,_)=>if 128<i.bytes then none else match Ao S.fr x,Wn S (Ao S.fr y) with
      | .mse j 1 off n,some (ys,vy)=>match S.h[j]? with
       | some (some (.ints xs))=>some (⟨FG S.fr o.dst (.mse S.h.length 1 0 (n+ys.length)),S.h.set j none++[some (.ints (xs.drop off++ys))]⟩,[vy,0<ys.length,off+n=xs.length,n+ys.length<=A7])
       | _=>none
      | .mri j 1,some (ys,vy)=>match S.h[j]? with
       | some (some (.mo (.rows f (some (x',L,_)))))=>some (⟨FG (S.fr.map (PT j S.h.length)) o.dst (.mri S.h.length 1),S.h.set j none++[some (.mo (.rows f (some (x',L++ys,true))))]⟩,[vy,0<ys.length,L.length+ys.length<=A7])
       | _=>none
      | _,_=>none
     | _=>none
     else none
    | _=>none
   | _=>none
  | _=>none
 | _=>none
theorem uG {P:Program} {S:St} {o:Oper} {r:St×List Prop} (h:Rf P S o=some r) {t:TypeId} {x y:Operand}:o.op≠.store t x y:=by
 intro e;unfold Rf at h;rw [e] at h;cases h
theorem CG.map {M:Nat -> Prop} {w:World} {ρ:List AN} {fr:List DV} {t:Array Value} (h:CG M w ρ fr t) {g:DV -> DV} (hg: ∀ d v,AQ M w d ρ v -> AQ M w (g d) ρ v):CG M w ρ (fr.map g) t:=
 ⟨by simp [h.1],fun i hi=>by
  have A5:i<fr.length:=by simpa using hi
  have e:(fr.map g).getD i .any=g (fr.getD i .any):=by simp [A5]
  rw [e];exact hg _ _ (h.2 i A5)⟩
section
variable {P:Program} {Γ:A6} {N:Nat -> Prop} {S:St} {ρ:List AN} {a:Act} {w w':World} {p p':AN} {f:Int -> List Int} {DU:Option (Int×List Int×Bool)} {u:Value} {es:Array MapEntry} {Ad:Nat}
theorem kf (h:Ed w p f DU u es Ad) {kt:TypeId} (hk:P.underlying kt=some (.int .i64)) (x:Int):
 ((Instr.findKey kt (.int .i64 x) es.toList).run P w= .ok none w/\ ∀ e∈es.toList,e.key≠.int .i64 x)∨∃ j e,(Instr.findKey kt (.int .i64 x) es.toList).run P w= .ok (some (j,e.val)) w/\ es[j]? =some e/\ e.key= .int .i64 x:=by
 rcases MapKept.findNow_spec (d:=.int .i64) (k:=.int .i64 x) (by trivial) es.toList 0 (fun e hm=>by
  obtain ⟨k,hk,_⟩:=h.key e hm;rw [hk];trivial) with ⟨h1,h2⟩ | ⟨j,e,h1,h2,h3⟩
 ·exact .inl ⟨zGR hk h1,h2⟩
 ·exact .inr ⟨j,e,by have:=zGR (w:=w) hk h1;rw [zBj] at this;exact this,by simpa using h2,h3⟩
theorem WN (R:An P Γ N S ρ a w) {j i:Nat} {v:Value} (hk:S.h[j]? =some (some (.mo (.rows f DU)))) (hv:AQ (MS N S.h ρ) w (.mri j i) ρ v): ∃ p u es Ad,ρ[j]? =some p/\ Ed w p f DU u es Ad/\ (#[Value.map (some p.blk),u]:Array Value)[i]? =some v:=by
 obtain ⟨p,vs,hp,FP,Dg⟩:=hv;obtain ⟨p',BE,u,es,Ad,h1⟩:=R.hr.obj j _ hk;have:p'=p:=zBK (BE.symm.trans hp);subst this;have: #[Value.map (some p'.blk),u]=vs:=by have:=h1.val.symm.trans FP;cases this;rfl
 subst this;exact ⟨p',u,es,Ad,hp,h1,Dg⟩
theorem Ed.lies (h:Ed w p f DU u es Ad):EG w p.blk:=⟨_,rfl,(),h.blk⟩
theorem iV (R:An P Γ N S ρ a w) {j:Nat} (hj:S.h[j]? =some (some (.mo (.rows f DU)))) (hp:ρ[j]? =some p) (hO:Ed w p f DU u es Ad) {f':Int -> List Int} {Ts:Option (Int×List Int×Bool)} {u':Value} {Dw:Array MapEntry} {Eu:Nat}
 (hu:AV p.foot w w') (hf: ∀ b,p'.foot b -> (p.foot b∨w.heap.size<=b)/\ EG w' b) (Tf:Ed w' p' f' Ts u' Dw Eu) (ct:p'.blk=p.blk) (dst:Option Nat):
 ∃ ρ',An P Γ N ⟨FG (S.fr.map (PT j S.h.length)) dst (.mri S.h.length 1),S.h.set j none++[some (.mo (.rows f' Ts))]⟩ ρ' (a.put dst u') w'/\ Ew S.h ρ w (S.h.set j none++[some (.mo (.rows f' Ts))]) ρ' w':=by
 obtain ⟨g1,g2⟩:=R.hr.regrow (o':=.mo (.rows f' Ts)) hj hp hu hf ⟨u',Dw,Eu,Tf⟩;have Fj: ∀ (k:Nat) (q:AN),ρ[k]? =some q -> (ρ++[p'])[k]? =some q:=fun k q hk=>D9 hk
 have O:Ba (MS N S.h ρ) w ρ (MS N (S.h.set j none++[some (.mo (.rows f' Ts))]) (ρ++[p'])) w' (ρ++[p']):=
  ⟨fun b hb hm _=>hu.block b hb fun hx=>hm (.inr ⟨j,_,p,hj,hp,hx⟩),fun b hb=>hb.elim (fun h=>.inl (.inl h)) (fun h=>(g2.grow b h).imp .inr id),Fj⟩
 have hq:(ρ++[p'])[S.h.length]? =some p':=by rw [←R.hr.len];simp
 have EY:=(R.fr.out O).map (g:=PT j S.h.length) (fun d v hd=>by
  unfold PT;split
  ·rename_i k i;split
   ·rename_i e;split
    ·rename_i e2;subst e e2;obtain ⟨q,vs,h1,h2,h3⟩:=hd;have:q=p:=zBK (h1.symm.trans (Fj _ _ hp));subst this;have e3: #[Value.map (some q.blk),u]=vs:=by have:=hO.val.symm.trans h2;cases this;rfl
     subst e3;exact ⟨p',_,hq,Tf.val,by rw [ct];simpa using h3⟩
    ·trivial
   ·exact hd
  ·exact hd)
 exact ⟨ρ++[p'],JP (S:=⟨S.fr.map (PT j S.h.length),_⟩) ⟨g1,EY⟩ dst ⟨p',_,hq,Tf.val,rfl⟩,g2,Fj⟩
theorem w8 (h:Ed w p f DU u es Ad) (hh: ∀ k L,DU≠some (k,L,true)) {t kt et:TypeId} (hm:P.underlying t=some (.map kt et)) (hk:GN P kt=some 1) (hz:(zeroValue et).run P w= .ok (.slice none 0 0) w) (x:Int):
 ∃ u',(Instr.lookup t (.map (some p.blk)) (.int .i64 x) false).run P w= .ok u' w/\ Ed w { p with val:=.tuple #[Value.map (some p.blk),u'] } f (some (x,f x,false)) u' es Ad:=by
 have hu:P.underlying kt=some (.int .i64):=by
  rcases Pd hk with ⟨_,hu⟩ | ⟨_,_,_,h2,_⟩
  ·exact hu
  ·cases h2
 have hc:=fun e=>Pc (w:=w) hk (x:=[x]) rfl e
 have mk: ∀ u',(J3 w (fun b=>p.foot b/\ b≠p.blk) u' (f x)/\ ∀ e∈es.toList,∀ b,Fa u'=some b -> Fa e.val=some b -> e.key= .int .i64 x) -> Ed w { p with val:=.tuple #[Value.map (some p.blk),u'] } f (some (x,f x,false)) u' es Ad:=fun u' Bc=>
  ⟨rfl,h.blk,h.own,fun e he=>let ⟨k,h1,h2⟩:=h.key e he;⟨k,h1,fun _=>h2 fun L=>hh k L⟩,h.no,h.nd,h.apart,h.born,h.stamps,fun k L g e=>by cases e;exact Bc⟩
 rcases kf h hu x with ⟨h1,h2⟩ | ⟨j,e,h1,h2,h3⟩
 ·refine ⟨.slice none 0 0,?_,mk _ ⟨.inl ⟨h.no x h2,rfl⟩,fun e _ b hb=>by cases hb⟩⟩;have H9:=hc es.isEmpty;simp only [BH] at H9;simp [Instr.lookup,zDE hm,zFM h.blk,H9,h1,hz,Result.andThen]
 ·have CB:e∈es.toList:=zGq.2 (zFl h2);obtain ⟨k,g1,g2⟩:=h.key e CB;have:k=x:=by rw [g1] at h3;cases h3;rfl
  subst this;refine ⟨e.val,?_,mk _ ⟨g2 fun L=>hh k L,fun e' HN b hb C9=>(h.apart e' HN e CB b C9 hb).trans h3⟩⟩;have H9:=hc es.isEmpty;simp only [BH] at H9;simp [Instr.lookup,zDE hm,zFM h.blk,H9,h1,Result.andThen]
theorem w9 (h:Ed w p f DU u es Ad) {x:Int} {L:List Int} {g:Bool} (Ta:DU=some (x,L,g)) (hl: ∀ b,p.foot b -> EG w b) {t e ty:TypeId} {i:TypeInfo} {z:Value} (hu:P.underlying t=some (.slice e)) (hi:P.info? e=some i) (hz:i.zero=some z) (A9:i.size=1) (DL:z.cells.size=i.size) (E6:i.bytes<=128)
 {vy:Value} {ys:List Int} (hy:Src P i.size t vy ys.length (ys.map (Value.int .i64)) w) (hc:0<ys.length) (hb:L.length+ys.length<=A7):
 ∃ w' u' p',(Builtin.append_ #[t,t] ty #[u,vy]).run P w= .ok u' w'/\ AV p.foot w w'/\ (∀ b,p'.foot b -> (p.foot b∨w.heap.size<=b)/\ EG w' b)/\ Ed w' p' f (some (x,L++ys,true)) u' es Ad/\ p'.blk=p.blk:=by
 obtain ⟨hs,hd⟩:=h.inHand x L g Ta;have Ak:(L++ys).length=L.length+ys.length:=zCC
 have al: ∃ w' q CD,(Builtin.append_ #[t,t] ty #[u,vy]).run P w= .ok (.slice (some ⟨q.blk,q.off,none⟩) (L++ys).length CD) w'/\ (L++ys).length<=CD/\ q.off+CD<=q.room/\ AV (fun b=>Fa u=some b) w w'/\ (Fa u=some q.blk∨w.heap.size<=q.blk)/\ Ag w' q (L++ys).length (fun j v=>v= .int .i64 ((L++ys).getD j 0)):=by
  rcases hs with ⟨rfl,rfl⟩ | ⟨q,cap,rfl,h1,h2,h3,h4,h5⟩
  ·obtain ⟨w',CD,r1,r2,cs,rfl,r4,r5⟩:=d9 none (ty:=ty) hu hi hz DL E6 hy hc (by unfold A7 at hb;simp at hb;omega);rw [A9,zE0] at r4;refine ⟨_,D5 w cs.size,CD,by simpa [D5] using r1,by simpa using r2,by simp [D5,r4],AV.ofExt ((A4.toDrew w).allocR _),.inr (zBa _),Mw rfl (by simp;omega) fun j hj=>?_⟩;have BI:j<ys.length:=by simpa using hj
   refine ⟨.int .i64 (ys.getD j 0),?_,by simp⟩;rw [r5 j (by rw [A9,zE0];exact BI)];simp [BI]
  ·obtain ⟨w',q',CD,r1,r2,r3,r4,r5,r6⟩:=d7 (ty:=ty) (R:=fun j v=>v= .int .i64 (L.getD j 0)) (cap:=cap) hu hi hz (by omega) DL E6 (by rw [A9,zE0];exact h5) h1 (by rw [A9,zE0];exact h2) hy (by unfold A7 at hb;omega);rw [A9,zE0] at r3;have hq:q.foot=(fun b=>b=q.blk):=h5.1;have hR:=bL (P:=P) (M:=fun _=>False) (ρ':=[]) A9 r6;refine ⟨w',q',CD,by rw [Ak];exact r1,by rw [Ak];exact r2,r3,r4.mono fun b _ hb=>by rw [hq] at hb;rw [show b=q.blk from hb];rfl,?_,hR⟩;have Nv:=r6.1;rcases r5 q'.blk (by rw [Nv]) with e | e
   ·rw [hq] at e;exact .inl (by rw [show q'.blk=q.blk from e];rfl)
   ·exact .inr e
 obtain ⟨w',q,CD,r1,r2,r3,r4,r5,r6⟩:=al;have Yv: ∀ b,Fa u=some b -> (p.foot b/\ b≠p.blk)/\ b<w.heap.size:=fun b hb=>hs.blk hb
 have keep: ∀ b,b<w.heap.size -> Fa u≠some b -> w'.heap[b]? =w.heap[b]? :=fun b hb hn=>r4.block b hb hn
 have cA:Fa u≠some p.blk:=fun e=>(Yv _ e).1.2 rfl
 have zAC:p.blk<w.heap.size:=(zBG.1 h.blk).1;have z8:q.blk≠p.blk:=fun e=>r5.elim (fun e'=>cA (by rw [←e];exact e')) (fun e'=>by omega)
 refine ⟨w',_,⟨p.blk,p.off,p.room,.tuple #[Value.map (some p.blk),.slice (some ⟨q.blk,q.off,none⟩) (L++ys).length CD],fun b=>(p.foot b/\ Fa u≠some b)∨b=q.blk⟩,r1,r4.mono fun b _ hb=>(Yv b hb).1.1,fun b hb=>?_,?_,rfl⟩
 ·rcases hb with ⟨g1,g2⟩ | g1
  ·obtain ⟨c,t1,t2,hc⟩:=hl b g1;exact ⟨.inl g1,c,t1,t2,(keep b (zBG.1 hc).1 g2).trans hc⟩
  ·obtain ⟨_,cs,tt,g,_⟩:=r6;subst g1;exact ⟨r5.imp (fun e=>(Yv _ e).1.1) id,.cells g⟩
 ·have FK: ∀ e'∈es.toList,∀ k,e'.key= .int .i64 k -> k≠x -> J3 w (fun b=>p.foot b/\ b≠p.blk) e'.val (f k):=fun e' he k hk Kr=>by
   obtain ⟨k',h1,h2⟩:=h.key e' he;have:k'=k:=by rw [h1] at hk;cases hk;rfl
   subst this;exact h2 fun L' e=>by rw [Ta] at e;cases e;exact Kr rfl
  refine ⟨rfl,(keep _ zAC cA).trans h.blk,.inl ⟨h.own,cA⟩,fun e' he=>?_,h.no,h.nd,h.apart,h.born,h.stamps,fun k L' g' e'=>?_⟩
  ·obtain ⟨k,h1,_⟩:=h.key e' he;refine ⟨k,h1,fun hn=>?_⟩;have hk:k≠x:=fun e=>by subst e;exact hn _ rfl
   have ne: ∀ b,Fa e'.val=some b -> Fa u≠some b:=fun b hb C9=>hk (by have:=hd e' he b C9 hb;rw [h1] at this;cases this;rfl)
   exact (FK e' he k h1 hk).out (fun b hf hb hl=>keep b hl (ne b hb)) fun b hf hb=>⟨.inl ⟨hf.1,ne b hb⟩,hf.2⟩
  ·cases e';refine ⟨.inr ⟨q,CD,rfl,r2,r3,by unfold LB;unfold A7 at hb;omega,⟨.inr rfl,z8⟩,r6⟩,fun e' he b hb C9=>?_⟩;cases hb;rcases r5 with r5 | r5
   ·exact hd e' he _ r5 C9
   ·obtain ⟨k',h1,_⟩:=h.key e' he
    by_cases hk:k'=x
    ·subst hk;exact h1
    ·exact absurd ((FK e' he k' h1 hk).blk C9).2 (Nat.not_lt.2 r5)
theorem w7 (h:Ed w p f DU u es Ad) {x:Int} {L:List Int} {g:Bool} (Ta:DU=some (x,L,g)) {t kt et:TypeId} (hm:P.underlying t=some (.map kt et)) (hk:GN P kt=some 1):
 ∃ w' Dw Eu,(Instr.mapUpdate t (.map (some p.blk)) (.int .i64 x) u).run P w= .ok () w'/\ AV (fun b=>b=p.blk) w w'/\ Ed w' p (G3 f x L) none u Dw Eu:=by
 have hu:P.underlying kt=some (.int .i64):=by
  rcases Pd hk with ⟨_,hu⟩ | ⟨_,_,_,h2,_⟩
  ·exact hu
  ·cases h2
 have hc:=Pc (w:=w) hk (x:=[x]) rfl false;simp only [BH] at hc;obtain ⟨hs,hd⟩:=h.inHand x L g Ta;have AP:p.blk<w.heap.size:=(zBG.1 h.blk).1
 have mk: ∀ (Dw:Array MapEntry) (Eu:Nat),(∀ e∈Dw.toList,(e.key= .int .i64 x/\ e.val=u)∨(e∈es.toList/\ e.key≠.int .i64 x)) -> (∃ e∈Dw.toList,e.key= .int .i64 x) -> (∀ e∈es.toList,e.key≠.int .i64 x -> e∈Dw.toList) -> MapKept.Stamped Dw Eu ->
  Ed { w with heap:=w.heap.setIfInBounds p.blk (.map Dw Eu) } p (G3 f x L) none u Dw Eu:=fun Dw Eu m1 m2 m3 st=>by
  have stay: ∀ b,b≠p.blk -> (w.heap.setIfInBounds p.blk (.map Dw Eu))[b]? =w.heap[b]? :=fun b hb=>by simp [zGK hb]
  have FK: ∀ e'∈es.toList,∀ k,e'.key= .int .i64 k -> k≠x -> J3 w (fun b=>p.foot b/\ b≠p.blk) e'.val (f k):=fun e' he k hk Kr=>by
   obtain ⟨k',h1,h2⟩:=h.key e' he;have:k'=k:=by rw [h1] at hk;cases hk;rfl
   subst this;exact h2 fun L' e=>by rw [Ta] at e;cases e;exact Kr rfl
  refine ⟨h.val,by simp [AP],h.own,fun e he=>?_,fun k Di=>?_,st.2.2,fun e he e' HN b hb C9=>?_,st.1,st.2.1,fun k L' g' e=>by cases e⟩
  ·rcases m1 e he with ⟨a1,a2⟩ | ⟨a1,a2⟩
   ·refine ⟨x,a1,fun _=>?_⟩;rw [a2];unfold G3;rw [zAE rfl];exact hs.out (fun b hf _ _=>stay b hf.2) fun _ h _=>h
   ·obtain ⟨k,h1,_⟩:=h.key e a1;have Kr:k≠x:=fun e'=>a2 (by rw [h1,e'])
    refine ⟨k,h1,fun _=>?_⟩;unfold G3;rw [zBP Kr];exact (FK e a1 k h1 Kr).out (fun b hf _ _=>stay b hf.2) fun _ h _=>h
  ·have Kr:k≠x:=fun e=>by subst e;obtain ⟨e,h1,h2⟩:=m2;exact Di e h1 h2
   unfold G3;rw [zBP Kr];refine h.no k fun e he nB=>?_
   exact Di e (m3 e he fun h=>Kr (by rw [nB] at h;cases h;rfl)) nB
  ·rcases m1 e he with ⟨a1,a2⟩ | ⟨a1,a2⟩
   ·rcases m1 e' HN with ⟨b1,b2⟩ | ⟨b1,b2⟩
    ·rw [a1,b1]
    ·rw [a2] at hb;exact a1.trans (hd e' b1 b hb C9).symm
   ·rcases m1 e' HN with ⟨b1,b2⟩ | ⟨b1,b2⟩
    ·rw [b2] at C9;exact (hd e a1 b C9 hb).trans b1.symm
    ·exact h.apart e a1 e' b1 b hb C9
 have st:MapKept.Stamped es Ad:=⟨h.born,h.stamps,h.nd⟩;rcases kf h hu x with ⟨h1,h2⟩ | ⟨j,e,h1,h2,h3⟩
 ·refine ⟨_,es.push { key:=.int .i64 x,val:=u,born:=Ad },Ad+1,?_,Qu _,mk _ _ (fun e he=>?_) ⟨{ key:=.int .i64 x,val:=u,born:=Ad },by simp,rfl⟩ (fun e he _=>by simp [zGq.1 he]) (MapKept.stamped_push st h2)⟩
  ·simp [Instr.mapUpdate,zDE hm,zFM h.blk,hc,h1,zF6 _ h.blk,Result.andThen]
  ·simp only [Array.toList_push,zB5,zBm] at he;rcases he with he | rfl
   ·exact .inr ⟨he,h2 e he⟩
   ·exact .inl ⟨rfl,rfl⟩
 ·have Em:((es[j]?).map (·.key)).getD (.int .i64 x)= .int .i64 x:=by rw [h2];exact h3
  have E5:=MapKept.run_keyThatStays (P:=P) (w:=w) (d:=.int .i64) (k:=.int .i64 x) (by trivial);have hj:j<es.size:=(zBG.1 h2).1
  have inj: ∀ (m:Nat) (e':MapEntry),es[m]? =some e' -> e'.key= .int .i64 x -> m=j:=fun m e' CB Di=>by
   have Cg:m<es.size:=(zBG.1 CB).1;have g1:(es.toList.map (·.key))[m]? =some (.int .i64 x):=by simp [CB,Di]
   have g2:(es.toList.map (·.key))[j]? =some (.int .i64 x):=by simp [h2,h3]
   exact (List.getElem?_inj (by simpa using Cg) h.nd).1 (g1.trans g2.symm)
  have I3: ∀ (m:Nat),(es.modify j fun e=>{ e with key:=.int .i64 x,val:=u })[m]? =if j=m then (es[m]?).map (fun e=>{ e with key:=.int .i64 x,val:=u }) else es[m]? :=fun m=>zFv
  refine ⟨_,es.modify j fun e=>{ e with key:=.int .i64 x,val:=u },Ad,?_,Qu _,mk _ _ (fun e1 cj=>?_) ⟨{ e with key:=.int .i64 x,val:=u },?_,rfl⟩ (fun e1 cj AY=>?_) (MapKept.stamped_modify st _ _ (fun _ _=>rfl) fun e' _ HN=>by rw [h2] at HN;cases HN;exact h3.symm)⟩
  ·simp [Instr.mapUpdate,zDE hm,zFM h.blk,hc,h1,Em,E5,zF6 _ h.blk,Result.andThen]
  ·obtain ⟨m,CB⟩:=zGB.1 cj;rw [zGC,I3] at CB;split at CB
   ·rename_i cZ;subst cZ;rw [h2] at CB;cases CB;exact .inl ⟨rfl,rfl⟩
   ·rename_i cZ;exact .inr ⟨zGq.2 (zFl CB),fun Di=>cZ (inj m e1 CB Di).symm⟩
  ·exact zGB.2 ⟨j,by rw [zGC,I3,zAE rfl,h2];rfl⟩
  ·obtain ⟨m,CB⟩:=zGB.1 cj;rw [zGC] at CB;refine zGB.2 ⟨m,by rw [zGC,I3,zBP];exact CB;rintro rfl;rw [h2] at CB;cases CB;exact AY h3⟩
theorem xg (R:An P Γ N S ρ a w) {j off n:Nat} {xs:List Int} {v:Value} (hO:S.h[j]? =some (some (.ints xs))) (hv:AQ (MS N S.h ρ) w (.mse j 1 off n) ρ v) (hn:off+n=xs.length) {t e ty:TypeId} {i:TypeInfo} {z:Value} (hu:P.underlying t=some (.slice e)) (hi:P.info? e=some i) (hz:i.zero=some z) (A9:i.size=1) (DL:z.cells.size=i.size) (E6:i.bytes<=128)
 {vy:Value} {ys:List Int} (hy:Src P i.size t vy ys.length (ys.map (Value.int .i64)) w) (hc:0<ys.length) (hb:n+ys.length<=A7):
 ∃ u w' p' CD,v=u/\ (Builtin.append_ #[t,t] ty #[u,vy]).run P w= .ok (.slice (some ⟨p'.blk,p'.off,none⟩) (n+ys.length) CD) w'/\ n+ys.length<=CD/\ p'.off+CD<=p'.room/\ (∃ p,ρ[j]? =some p/\ AV p.foot w w'/\ ∀ b,p'.foot b -> (p.foot b∨w.heap.size<=b)/\ EG w' b)/\
  (∀ {M ρ'},DD P M w' ρ' p' (.ints (xs.drop off++ys)))/\ True:=by
 obtain ⟨p,ad,cap,hp,rfl,h1,h2,h3⟩:=hv;obtain ⟨p2,TO,hr⟩:=R.hr.obj j _ hO;have:p2=p:=zBK (TO.symm.trans hp);subst this;have OD:(xs.drop off).length=n:=by simp;omega
 have al: ∃ w' p' CD,(Builtin.append_ #[t,t] ty #[.slice ad n cap,vy]).run P w= .ok (.slice (some ⟨p'.blk,p'.off,none⟩) (n+ys.length) CD) w'/\ n+ys.length<=CD/\ p'.off+CD*i.size<=p'.room/\ AV p2.foot w w'/\ (∀ b,p'.foot b -> p2.foot b∨w.heap.size<=b)/\ Ag w' p' ((n+ys.length)*i.size) (IF (n*i.size) (fun j u=>u= .int .i64 ((xs.drop off).getD j 0)) (ys.map (Value.int .i64))):=by
  by_cases L5:cap=0
  ·subst L5;have Fk:n=0:=by omega
   subst Fk;obtain ⟨w',CD,r1,r2,cs,rfl,r4,r5⟩:=d9 ad (ty:=ty) hu hi hz DL E6 hy hc (by unfold A7 at hb;omega);refine ⟨_,D5 w cs.size,CD,by simpa [D5] using r1,by omega,by simp [D5,r4],AV.ofExt ((A4.toDrew w).allocR _),fun b hb=>.inr (zGu (Eq.symm hb)),Mw rfl ?_ fun j hj=>?_⟩
   ·rw [r4];exact zFT _ (by omega)
   ·rw [zBj] at hj;refine ⟨(ys.map (Value.int .i64)).getD j undef,?_,?_⟩
    ·rw [r5 j hj];rw [A9,zE0] at hj;simp [hj]
    ·rw [A9,zE0] at hj;unfold IF;rw [zBP (by omega)];simp [hj]
  ·obtain ⟨rfl,h4⟩:=h3 (by omega);obtain ⟨c1,cs,tt,c2,c3,c4,c5⟩:=hr
   exact d7 (ty:=ty) (p:={ p2 with off:=p2.off+off*1 }) (cap:=cap) hu hi hz (by omega) DL E6 (R:=fun j u=>u= .int .i64 ((xs.drop off).getD j 0)) (by
    refine ⟨c1,cs,tt,c2,?_,c4,fun j hj=>?_⟩
    ·rw [A9];show p2.off+off*1+n*1<=cs.size;omega
    ·rw [A9,zE0] at hj;obtain ⟨u,q1,q2⟩:=c5 (off+j) (by omega);refine ⟨u,by show cs[p2.off+off*1+j]? =_;rw [show p2.off+off*1+j=p2.off+(off+j) by omega];exact q1,?_⟩;rw [q2];simp [u8]) h1 (by rw [A9];simpa using h4) hy (by unfold A7 at hb;omega)
 obtain ⟨w',p',CD,r1,r2,r3,r4,r5,r6⟩:=al;rw [A9,zE0] at r3;refine ⟨_,w',p',CD,rfl,r1,r2,r3,⟨p2,hp,r4,fun b hb=>⟨r5 b hb,?_⟩⟩,fun {M ρ'}=>bL (xs:=xs.drop off) (ys:=ys) A9 (by rw [OD];exact r6),trivial⟩;obtain ⟨e1,cs,tt,e2,_⟩:=r6;rw [e1] at hb;exact .cells (c:=cs) (t:=tt) (z:=(0,0)) (by rw [show b=p'.blk from hb];exact e2)
theorem uF (R:An P Γ N S ρ a w) {o:Oper} {S':St} {vs:List Prop} (h:Rf P S o=some (S',vs)) (hv:Bo vs):
 Bb P (execOp a.eval o) w (fun v w'=>∃ ρ',An P Γ N S' ρ' (a.put o.dst v) w'/\ Ew S.h ρ w S'.h ρ' w'):=by
 unfold Rf at h;split at h
 ·rename_i t ho;split at h
  ·rename_i r hT;cases h;refine Bb.value (s:=Instr.makeMap t none) (by unfold execOp;rw [ho];rfl) (v:=.map (some w.heap.size)) (w':=w.alloc (.map #[] 0)) (by simp [Instr.makeMap,newObj];rfl) ?_;have G:=Xa (ob:=.map #[] 0) (o:=.mo (.rows (fun _=>[]) none)) (d:=.mri S.h.length 0) (v:=.map (some w.heap.size)) (pl:=⟨w.heap.size,0,0,.tuple #[.map (some w.heap.size),undef],fun b=>b=w.heap.size⟩) R.hr rfl rfl (fun M ρ'=>⟨undef,#[],0,rfl,zF3 w _,rfl,fun e he=>absurd he (by simp),fun _ _=>rfl,by simp,fun e he=>absurd he (by simp),fun e he=>absurd he (by simp),by simp,fun k L g e=>by cases e⟩) (fun M ρ' hp=>⟨_,_,hp,rfl,rfl⟩) true;exact Tl R o.dst G fun _ _ h=>h
  ·cases h
 ·rename_i t m k ho;split at h
  ·rename_i r hT;obtain ⟨kt,et⟩:=r;obtain ⟨hu,hk,hz⟩:=iX hT;have rm:=Bx R m;have rk:=Bx R k;split at h
   ·rename_i j x hM hK;split at h
    ·rename_i f DU hO;split at h
     ·rename_i hh;cases h;rw [hM] at rm;rw [hK] at rk;obtain ⟨p,u,es,Ad,hp,hA,Dg⟩:=WN R hO rm;have em:a.eval m= .map (some p.blk):=by simpa using Dg.symm
      have ek:a.eval k= .int .i64 x:=rk;obtain ⟨u',g1,g2⟩:=w8 hA (fun k L e=>by subst e;simp at hh) hu hk (hz w) x;refine Bb.value (s:=Instr.lookup t (a.eval m) (a.eval k) false) (by unfold execOp;rw [ho]) (by rw [em,ek];exact g1) ?_;exact iV (p':={ p with val:=.tuple #[Value.map (some p.blk),u'] }) R hO hp hA (AV.refl _ _) (fun b hb=>⟨.inl hb,(R.hr.cel j _ p b hO hp hb).2.2⟩) g2 rfl o.dst
     ·cases h
    ·cases h
   ·cases h
  ·cases h
 ·rename_i t m k y ho;split at h
  ·rename_i r hT;obtain ⟨kt,et⟩:=r;obtain ⟨hu,hk,hz⟩:=iX hT;have rm:=Bx R m;have rk:=Bx R k;have ry:=Bx R y;split at h
   ·rename_i j x j' hM hK hY;split at h
    ·rename_i f x' L g hO;split at h
     ·rename_i hj;cases h;subst hj;have hx:x'=x:=hv.1;subst hx;rw [hM] at rm;rw [hK] at rk;rw [hY] at ry;obtain ⟨p,u,es,Ad,hp,hA,Dg⟩:=WN R hO rm;obtain ⟨p2,u2,es2,clock2,TO,hA2,za⟩:=WN R hO ry;have:p2=p:=zBK (TO.symm.trans hp);subst this;have eu:u2=u:=by have:=hA2.val.symm.trans hA.val;simp at this;exact this
      have em:a.eval m= .map (some p2.blk):=by simpa using Dg.symm
      have ek:a.eval k= .int .i64 x':=rk;have ey:a.eval y=u:=by rw [←eu];simpa using za.symm
      obtain ⟨w',Dw,Eu,g1,g2,g3⟩:=w7 hA rfl hu hk;refine Bb.skip (s:=Instr.mapUpdate t (a.eval m) (a.eval k) (a.eval y)) (by unfold execOp;rw [ho]) (w':=w') (by rw [em,ek,ey];exact g1) ?_;have Ls:AV p2.foot w w':=g2.mono fun b _ hb=>by rw [show b=p2.blk from hb];exact hA.own
      have hl: ∀ b,p2.foot b -> EG w' b:=fun b hb=>by
       by_cases e:b=p2.blk
       ·rw [e];exact g3.lies
       ·obtain ⟨c,t1,t2,hc⟩:=(R.hr.cel _ _ p2 b hO hp hb).2.2;exact ⟨c,t1,t2,(g2.block b (zBG.1 hc).1 e).trans hc⟩
      have G:DY P Γ N S.h ρ w false Qz (S.h.set j' (some (.mo (.rows (G3 f x' L) none)))) undef w':=⟨⟨ρ,R.hr.write hO hp Ls hl ⟨u,Dw,Eu,g3⟩,Uv,BL.write hO hp Ls,fun _ _ h=>h⟩,fun h=>by cases h⟩;exact Tl R o.dst G fun _ _ h=>h
     ·cases h
    ·cases h
   ·cases h
  ·cases h
 ·rename_i c ho;split at h
  ·rename_i hc;split at h
   ·rename_i x y ha;split at h
    ·rename_i t t' ht;split at h
     ·rename_i e;subst e;split at h
      ·rename_i e i z hk;obtain ⟨hu,hi,hz,h0,DL,Em,_⟩:=X1 hk;have Cu:i.size=1:=Em.symm;split at h
       ·cases h
       ·rename_i E6;have rx:=Bx R x;have ry:=Bx R y;split at h
        ·rename_i j off n ys vy hX hY;split at h
         ·rename_i xs hO;cases h;obtain ⟨v1,v2,v3,v4,_⟩:=hv;rw [hX] at rx;obtain ⟨ad,w',p',CD,e0,g1,g2,g3,g4,g5,_⟩:=xg (ty:=o.type) R hO rx v3 hu hi hz Cu DL (by omega) (by rw [Cu];exact Wm R hu ry hY v1) v2 v4;refine Bb.value (Xy ho hc ha ht) (by rw [e0];exact g1) ?_;obtain ⟨p,hp⟩:=g4;obtain ⟨q1,q2⟩:=R.hr.regrow (o':=.ints (xs.drop off++ys)) hO hp.1 hp.2.1 hp.2.2 g5
          have G:DY P Γ N S.h ρ w false (.mse S.h.length 1 0 (n+ys.length)) (S.h.set j none++[some (.ints (xs.drop off++ys))]) (.slice (some ⟨p'.blk,p'.off,none⟩) (n+ys.length) CD) w':=
           ⟨⟨ρ++[p'],q1,⟨p',_,CD,by rw [←R.hr.len];simp,rfl,g2,by unfold LB;unfold A7 at v4;omega,fun _=>⟨by simp,by simpa using g3⟩⟩,q2,fun _ _ h=>D9 h⟩,fun h=>by cases h⟩
          exact Tl R o.dst G fun _ _ h=>h
         ·cases h
        ·rename_i j ys vy hX hY;split at h
         ·rename_i f x' L g hO;cases h;obtain ⟨v1,v2,v3,_⟩:=hv;rw [hX] at rx;obtain ⟨p,u,es,Ad,hp,hA,Dg⟩:=WN R hO rx;have ex:a.eval x=u:=by simpa using Dg.symm
          obtain ⟨w',u',p',g1,g2,g3,g4,g5⟩:=w9 (ty:=o.type) hA rfl (fun b hb=>(R.hr.cel j _ p b hO hp hb).2.2) hu hi hz Cu DL (by omega) (by rw [Cu];exact Wm R hu ry hY v1) v2 v3;refine Bb.value (Xy ho hc ha ht) (by rw [ex];exact g1) ?_;exact iV R hO hp hA g2 g3 g4 g5 o.dst
         ·cases h
        ·cases h
      ·cases h
     ·cases h
    ·cases h
   ·cases h
  ·cases h
 ·cases h
def Y7 (P:Program) (S:St) (o:Oper):Option (St×List Prop):=match Y8 P S o with
 | some r=>some r
 | none=>Rf P S o
theorem gX (R:An P Γ N S ρ a w) {o:Oper} {S':St} {vs:List Prop} (h:Y7 P S o=some (S',vs)) (hv:Bo vs):
 Bb P (execOp a.eval o) w (fun v w'=>(∃ ρ',An P Γ N S' ρ' (a.put o.dst v) w'/\ Ew S.h ρ w S'.h ρ' w')/\ ((∀ t x y,o.op≠.store t x y)∨∃ k i p t x y,o.op= .store t x y/\ Ao S.fr x= .mp k 1 i 0/\ ρ[k]? =some p/\ AV p.foot w w')):=by
 have wk: ∀ {G G':Value -> World -> Prop},(∀ v w',G v w' -> G' v w') -> Bb P (execOp a.eval o) w G -> Bb P (execOp a.eval o) w G':=fun hg D=>by
  rcases D with ⟨v,w',h1,h2⟩ | ⟨w',h1,h2⟩ | ⟨f,args,w',h1,h2⟩
  ·exact .inl ⟨v,w',h1,hg _ _ h2⟩
  ·exact .inr (.inl ⟨w',h1,hg _ _ h2⟩)
  ·exact .inr (.inr ⟨f,args,w',h1,h2.mono fun e CX ⟨v,e1,e2⟩=>⟨v,e1,hg _ _ e2⟩⟩)
 unfold Y7 at h;split at h
 ·rename_i r hM;cases h;exact wk (fun v w' hx=>⟨hx.1,.inr hx.2⟩) (rL R hM hv)
 ·exact wk (fun v w' hx=>⟨hx,.inl fun t x y=>uG h⟩) (uF R h hv)
end
end Go.Proofs.YtekkngkphejfcaaGreatDoor
namespace Go.Proofs.YtekkngkphejfcaaGreatDoor
abbrev zF7:=@Bool.false_ne_true
end Go.Proofs.YtekkngkphejfcaaGreatDoor
namespace Go.Proofs.YtekkngkphejfcaaGreatDoor
open Go.RowKit
def ES (P:Program) (Γ:A6) (f:Nat) (ds:List DV) (h:DH) (d:DV) (h':DH) (ext:Bool):Prop:=
 (∃ fn,P.funcs[f]? =some fn/\ fn.name≠ "runtime.NumGoroutine" /\ fn.body.isSome=true)/\
 ∀ (N:Nat -> Prop) (ρ:List AN) (w:World) (args:Array Value),BX P Γ N h ρ w -> CG (MS N h ρ) w ρ ds args ->
  Calls P f args w fun e w'=>∃ v,e= .returned v/\ DY P Γ N h ρ w ext d h' v w'
structure B8 where
 calls:List (DV×DH×Bool)
 co:List (Nat×DV)
 fz:List (Nat×Fz):=[]
 tg:List (List (Nat×Nat)×St):=[]
def Md (ops:Array Oper) (S:St) (o:Oper):Option Bool:=match o.guard with
 | none=>some true
 | some (j,fO)=>match (ops[j]?).bind (·.dst) with
  | some t=>match S.fr.getD t .any with
   | .bool b=>some (b==fO)
   | .tup _ _=>some false
   | _=>none
  | none=>none
def YF (co:List (Nat×DV)) (dst:Option Nat) (d:DV):DV×List Prop×List (Nat×DV):=match co with
 | []=>(d,[],[])
 | (t,d')::rest=>match dst with
  | some t'=>if t'=t then (d',[AS d d'],rest) else (d,[],co)
  | none=>(d,[],co)
def LG (S:St):Op -> Bool
 | .move _=>true
 | .assign _=>true
 | .pick .. =>true
 | .binOp .shl .. =>false
 | .binOp .shr .. =>false
 | .binOp .quo .. =>false
 | .binOp .rem .. =>false
 | .binOp _ _ _ y _=>match Ao S.fr y with
  | .nils=>false
  | _=>true
 | .unOp .. =>true
 | .convert .. =>true
 | .nilCheck _=>true
 | .fieldAddr .. =>true
 | .extract .. =>true
 | .makeFunc .. =>true
 | .build .. =>true
 | .field .. =>true
 | .call _=>true
 | .load _ x=>match Ao S.fr x with
  | .mp .. =>false
  | _=>true
 | _=>false
def yk:Op -> Bool
 | .box .. =>true
 | .alloc _=>true
 | .buildSlice .. =>true
 | .makeSlice .. =>true
 | .store .. =>true
 | .makeMap .. =>true
 | .mapUpdate .. =>true
 | .insert .. =>true
 | .lookup .. =>true
 | .range .. =>true
 | .entry _=>true
 | .call c=>match c.callee with
  | .builtin .append=>true
  | .value _=>true
  | _=>false
 | _=>false
def SU (P:Program) (ops:Array Oper) (S:St) (co:List (Nat×DV)) (o:Oper):Option (St×List Prop×List (Nat×DV)):=match Md ops S o with
 | none=>none
 | some false=>some (⟨FG S.fr o.dst Qz,S.h⟩,[],co)
 | some true=>match Sd P S o.op with
  | none=>none
  | some (d,vc)=>match YF co o.dst d with
   | (d',vs,Dy)=>some (⟨FG S.fr o.dst d',S.h⟩,(if LG S o.op then vs else vc::vs),Dy)
def SV (P:Program) (ops:Array Oper):List Oper -> St -> List (Nat×DV) -> Option (St×List Prop×List (Nat×DV))
 | [],S,co=>some (S,[],co)
 | o::rest,S,co=>match SU P ops S co o with
  | none=>none
  | some (S',vs,Dy)=>match SV P ops rest S' Dy with
   | none=>none
   | some (Cn,Bz,pE)=>some (Cn,vs++Bz,pE)
def Qh (P:Program) (Γ:A6) (S:St) (calls:List (DV×DH×Bool)):Op -> Option (DV×DH×List Prop×Bool×List (DV×DH×Bool))
 | .box _ x=>match I8 (Ao S.fr x) with
  | some l=>some (.ref S.h.length 0,S.h++[some (.cells l)],[],true,calls)
  | none=>none
 | .alloc t=>match P.info? t with
  | some i=>match i.zero with
   | some z=>if Ye z then some (.mp S.h.length 1 0 0,S.h++[some (.bools (List.replicate z.cells.size false))],[],true,calls)
    else some (.ref S.h.length 0,S.h++[some (.cells (z.cells.toList.map Fg))],[],true,calls)
   | none=>none
  | none=>none
 | .buildSlice t len parts=>match MH P t with
  | some (k,_,_,_)=>if X6 parts.toList len&&decide (len<=65536/\ k.cells<=64) then match Qa k (parts.toList.map fun x=>Ao S.fr x.2) with
   | some ob=>some (.msl S.h.length k.cells 0 len,S.h++[some ob],[],true,calls)
   | none=>none
   else none
  | none=>none
 | .makeSlice t x y=>match WY P t with
  | some (n,_,_)=>match Ao S.fr x,Ao S.fr y with
   | .int _ m,.int _ m'=>some (.msl S.h.length 1 0 m.toNat,S.h++[some (.mo (.sets n (List.replicate m.toNat none) none))],[m'=m/\ 0<=m/\ m<=1000000000000],true,calls)
   | _,_=>none
  | none=>match MH P t with
   | some (k,_,i,z)=>if decide (i.bytes<=128) then match Ao S.fr x,Ao S.fr y with
    | .int _ n,.int _ n'=>some (.msl S.h.length k.cells 0 n.toNat,S.h++[some (ld k n.toNat z)],[n'=n/\ 0<=n/\ n<=1000000000000],true,calls)
    | _,_=>none
    else none
   | none=>none
 | .store t x y=>match Mi P S t (Ao S.fr x) (Ao S.fr y) with
  | some (h',vc)=>some (.any,h',[vc],false,calls)
  | none=>none
 | .call c=>match c.callee with
  | .builtin .append=>match c.args.toList with
   | [x,y]=>match c.argTypes.toList with
    | [t,t']=>if t=t' then match eE P S t (Ao S.fr x) (Ao S.fr y) with
     | some (d,h',vc)=>some (d,h',[vc],false,calls)
     | none=>none
     else none
    | _=>none
   | _=>none
  | .value f=>match Ao S.fr f,calls with
   | .fn g m cap,(d,h',ext)::rest=>some (d,h',[ES P Γ g (c.args.toList.map (Ao S.fr)++(List.range m).map cap) S.h d h' ext],ext,rest)
   | _,_=>none
  | _=>none
 | op=>match ak P S op with
  | some (d,h',vs,ext)=>some (d,h',vs,ext,calls)
  | none=>none
def OU (P:Program) (Γ:A6) (ops:Array Oper) (S:St) (A0:B8) (o:Oper):Option (St×List Prop×Bool×B8):=match Md ops S o with
 | none=>none
 | some false=>some (⟨FG S.fr o.dst Qz,S.h⟩,[],true,A0)
 | some true=>match Y7 P S o with
  | some (S',vs)=>some (S',vs,false,A0)
  | none=>match Qh P Γ S A0.calls o.op with
   | none=>none
   | some (d,h',vs,ext,calls)=>match YF A0.co o.dst d with
    | (d',Bz,Dy)=>match Xg A0.fz o.dst ⟨FG S.fr o.dst d',h'⟩ with
     | none=>none
     | some (S',Yp,dR)=>some (S',vs++(Bz++Yp),ext,⟨calls,Dy,dR,A0.tg⟩)
def E7 (P:Program) (Γ:A6) (ops:Array Oper):List Oper -> St -> B8 -> Option (St×List Prop×B8)
 | [],S,A0=>some (S,[],A0)
 | o::rest,S,A0=>match yk o.op with
  | true=>match OU P Γ ops S A0 o with
   | none=>none
   | some (S',vs,_,Cd)=>match E7 P Γ ops rest S' Cd with
    | none=>none
    | some (Cn,Bz,Sn)=>some (Cn,vs++Bz,Sn)
  | false=>match SU P ops S A0.co o with
   | none=>none
   | some (S',vs,Dy)=>match E7 P Γ ops rest S' ⟨A0.calls,Dy,A0.fz,A0.tg⟩ with
    | none=>none
    | some (Cn,Bz,Sn)=>some (Cn,vs++Bz,Sn)
def hseq (P:Program) (Γ:A6) (ops:Array Oper):List (List Nat×Nat) -> List Nat -> List Nat -> St -> B8 -> Option (St×List Prop×B8)
 | [],Bm,tail,S,A0=>match SV P ops (Ff ops Bm) S A0.co with
  | none=>none
  | some (S',vs,Dy)=>match E7 P Γ ops (Ff ops tail) S' ⟨A0.calls,Dy,A0.fz,A0.tg⟩ with
   | none=>none
   | some (Cn,Bz,Sn)=>some (Cn,vs++Bz,Sn)
 | (Hl,i)::GL,Bm,tail,S,A0=>match SV P ops (Ff ops Hl) S A0.co with
  | none=>none
  | some (S',vs,Dy)=>match ops[i]? with
   | none=>none
   | some o=>match OU P Γ ops S' ⟨A0.calls,Dy,A0.fz,A0.tg⟩ o with
    | none=>none
    | some (Cn,Bz,ext,Cd)=>match ext with
     | false=>none
     | true=>match hseq P Γ ops GL Bm tail Cn Cd with
      | none=>none
      | some (S3,Uq,PM)=>some (S3,vs++(Bz++Uq),PM)
section
variable {P:Program} {Γ:A6} {N:Nat -> Prop} {S:St} {ρ:List AN} {a:Act} {w:World} {F:Fence}
structure EI (F:Fence) (P:Program):Prop where
 fn: ∀ f,F.fn f
 dep:F.depth=none
 calls: ∀ {f:FuncId} {args:Array Value} {w:World} {R:Ending -> World -> Prop},Calls P f args w R -> CallsIn F 0 P f args w R
theorem EI.wide:EI Fence.wide P:=⟨fun _=>trivial,rfl,fun h=>callsIn_wide.2 h⟩
theorem EI.round (l:Nat):EI (Fence.wide.inRound l) P:=⟨fun _=>trivial,rfl,fun h=>CallsIn.inRound _ (callsIn_wide.2 h)⟩
theorem LF (R:An P Γ N S ρ a w) {ops:Array Oper} {o:Oper} {r:Bool} (h:Md ops S o=some r):Region.wanted o (yielded ops a.tmps)=r:=by
 unfold Md at h;unfold Region.wanted;split at h
 ·rename_i hg;rw [hg];cases h;rfl
 ·rename_i j fO hg;rw [hg];split at h
  ·rename_i t ht;split at h
   ·rename_i b hb;cases h;have hr:=R.fr.at t;rw [hb] at hr;have hv:a.tmps.getD t undef= .bool b:=hr
    have:a.tmps[t]? =some (.bool b):=by
     rw [zFK] at hv;cases hx:a.tmps[t]? with
     | none=>rw [hx] at hv;cases hv
     | some u=>rw [hx] at hv;exact congrArg some hv
    simp [yielded,ht,this]
   ·rename_i m f hb;cases h;have hr:=R.fr.at t;rw [hb] at hr;obtain ⟨cs,hv,_⟩:=hr
    have:yielded ops a.tmps j=none:=by
     unfold yielded;rw [ht]
     show (match a.tmps[t]? with | some (.bool b)=>some b | _=>none)=none
     rw [zFK] at hv;cases hx:a.tmps[t]? with
     | none=>rfl
     | some u=>rw [hx] at hv;have hv:u= .tuple cs:=hv;rw [hv]
    simp [this]
   ·cases h
  ·cases h
theorem dj {co:List (Nat×DV)} {dst:Option Nat} {d d':DV} {vs:List Prop} {Dy:List (Nat×DV)} (h:YF co dst d=(d',vs,Dy)) (hv:Bo vs) {M:Nat -> Prop} {v:Value} (hr:AQ M w d ρ v):AQ M w d' ρ v:=by
 unfold YF at h;split at h
 ·cases h;exact hr
 ·split at h
  ·split at h
   ·cases h;exact hv.1 M w ρ v hr
   ·cases h;exact hr
  ·cases h;exact hr
theorem kD {op:Op} {d:DV} {vc:Prop} (h:pop P S op=some (d,vc)) (ht:LG S op=true):vc:=by
 unfold pop at h;split at h
 ·cases h;trivial
 ·cases h;trivial
 ·repeat' (split at h)
  all_goals first | (cases h;trivial) | (cases h;done)
 ·rename_i t x;simp only [LG] at ht;unfold Nb at h
  repeat' (split at h)
  all_goals first | (cases h;trivial) | (cases h;done) | (simp_all;done)
 ·rename_i op t x y t';unfold YP at h;split at h
  ·split at h
   all_goals first | (cases h;trivial) | (cases h;done)
  ·split at h
   all_goals first | (cases h;trivial) | (cases h;done)
  ·rename_i e;simp [LG,e] at ht
  ·rename_i e;simp [LG,e] at ht
  ·rename_i e;simp [LG,e] at ht
  ·cases ht
  ·cases ht
  ·cases ht
  ·cases ht
  ·split at h
   ·unfold YO at h;split at h
    all_goals first | (cases h;trivial) | (cases h;done)
   ·cases h
  ·cases h
 ·repeat' (split at h)
  all_goals first | (cases h;trivial) | (cases h;done)
 ·repeat' (split at h)
  all_goals first | (cases h;trivial) | (cases h;done)
 ·repeat' (split at h)
  all_goals first | (cases h;trivial) | (cases h;done)
 ·repeat' (split at h)
  all_goals first | (cases h;trivial) | (cases h;done)
 ·cases ht
 ·repeat' (split at h)
  all_goals first | (cases h;trivial) | (cases h;done)
 ·split at h
  ·cases h;trivial
  ·cases h
 ·split at h
  ·unfold YL at h;split at h
   ·split at h
    ·split at h
     ·unfold Wg at h;split at h
      all_goals first | (cases h;trivial) | (cases h;done)
     ·cases h
    ·cases h
   ·split at h
    ·unfold af at h;split at h
     all_goals first | (cases h;trivial) | (cases h;done)
    ·cases h
   ·split at h
    ·unfold ae at h;split at h
     all_goals first | (cases h;trivial) | (cases h;done)
    ·cases h
   ·cases h
  ·cases h
 ·cases h
theorem zC8 {op:BinOp} {t:TypeId} {x y d:DV} {vc:Prop} (h:Tx P op t x y=some (d,vc)):vc:=by
 unfold Tx at h;split at h
 ·split at h
  all_goals first | (cases h;trivial) | (cases h;done)
 ·split at h
  all_goals first | (cases h;trivial) | (cases h;done)
 ·cases h
theorem qr {op:Op} {d:DV} {vc:Prop} (h:Sd P S op=some (d,vc)) (ht:LG S op=true):vc:=by
 unfold Sd at h;split at h
 ·unfold Wf at h
  repeat' (split at h)
  all_goals first | (cases h;trivial) | (cases h;done)
 ·cases ht
 ·unfold Xm at h
  repeat' (split at h)
  all_goals first | (cases h;trivial) | (cases h;done)
 ·cases ht
 ·split at h
  ·rename_i r hr;cases h;exact zC8 hr
  ·exact kD h ht
 ·exact kD h ht
theorem V7 (R:An P Γ N S ρ a w) {ops:Array Oper} {co:List (Nat×DV)} {o:Oper} {S':St} {vs:List Prop} {Dy:List (Nat×DV)} (h:SU P ops S co o=some (S',vs,Dy)) (hv:Bo vs):
 S'.h=S.h/\ ((Region.wanted o (yielded ops a.tmps)=true/\ ∃ v,(∀ W,Keep N w W -> (execOp a.eval o).run P W= .ok (.value v) W)/\ An P Γ N S' ρ (a.put o.dst v) w)∨(Region.wanted o (yielded ops a.tmps)=false/\ An P Γ N S' ρ (a.put o.dst undef) w)):=by
 unfold SU at h;split at h
 ·cases h
 ·rename_i hw;cases h;exact ⟨rfl,.inr ⟨LF R hw,JP R _ Uv⟩⟩
 ·rename_i hw;split at h
  ·cases h
  ·rename_i d vc hp;split at h;rename_i d' Bz pE Te;cases h
   have mZ:vc/\ Bo Bz:=by
    by_cases ht:LG S o.op=true
    ·rw [zAE ht] at hv;exact ⟨qr hp ht,hv⟩
    ·rw [zBP ht] at hv;exact hv
   obtain ⟨v,g1,g2⟩:=wf R o hp mZ.1;exact ⟨rfl,.inl ⟨LF R hw,v,g1,JP R _ (dj Te mZ.2 g2)⟩⟩
theorem V8 {ops:Array Oper} {Q:Act -> Prop}: ∀ (l:List Oper) {S:St} {a:Act} {co:List (Nat×DV)} {S':St} {vs:List Prop} {Dy:List (Nat×DV)},An P Γ N S ρ a w -> SV P ops l S co=some (S',vs,Dy) -> Bo vs ->
 (∀ a',S'.h=S.h -> An P Γ N S' ρ a' w -> a'.defers=a.defers -> Q a') -> wpQuiet P ops (fun w'=>∃ x:Uh w,w'=x.W) Q l a
 | [],S,a,co,S',vs,Dy,R,h,_,hQ=>by
  cases h;exact hQ a rfl R rfl
 | o::rest,S,a,co,S',vs,Dy,R,h,hv,hQ=>by
  simp only [SV] at h;split at h
  ·cases h
  ·rename_i S1 C1 UF h1;split at h
   ·cases h
   ·rename_i S2 FW co2 h2;cases h;obtain ⟨Bn,CT⟩:=DM.1 hv;obtain ⟨e1,hs⟩:=V7 R h1 Bn;unfold wpQuiet;have Dv: ∀ v,(a.put o.dst v).defers=a.defers:=fun v=>by cases ho:o.dst <;> simp [Act.put]
    rcases hs with ⟨hw,v,g1,g2⟩ | ⟨hw,g2⟩
    ·rw [zAE hw];refine ⟨v,?_,V8 rest g2 h2 CT fun a' q1 q2 q3=>hQ a' (q1.trans e1) q2 (q3.trans (Dv v))⟩;rintro W ⟨x,rfl⟩;unfold Oper.quietAt;rw [g1 x.W (Keep.ofExt x.le)];exact ⟨rfl,rfl⟩
    ·rw [zBP (by rw [hw];exact zF7)];exact V8 rest g2 h2 CT fun a' q1 q2 q3=>hQ a' (q1.trans e1) q2 (q3.trans (Dv undef))
theorem CG.append {M:Nat -> Prop} {l l':List DV} {t t':Array Value} (h:CG M w ρ l t) (h':CG M w ρ l' t'):CG M w ρ (l++l') (t++t'):=by
 refine ⟨by simp [h.1,h'.1],fun i hi=>?_⟩;rcases zFQ i l.length with hl | hl
 ·have:=h.2 i hl;have ht:i<t.size:=by rw [←h.1];exact hl
  simp only [u8,zFK] at this ⊢;rw [zBq hl,zFh ht];exact this
 ·have A5:i-l.length<l'.length:=by simp at hi;omega
  have:=h'.2 _ A5;have ht:t.size<=i:=by rw [←h.1];exact hl
  simp only [u8,zFK] at this ⊢;rw [zCF hl,Array.getElem?_append_right ht,←h.1];exact this
theorem tr {g:Nat} {args:Array Value} {fn:Func} (OB:P.funcs[g]? =some fn) (Kq:fn.name≠ "runtime.NumGoroutine") (cr:fn.body.isSome=true):(callFunc g args).run P w= .ok (.enter g args) w:=by
 have hnb:fn.body.isNone=false:=by cases hb:fn.body <;> simp [hb] at cr ⊢
 have hnm:(fn.name== "runtime.NumGoroutine")=false:=by simpa using Kq
 unfold callFunc;rw [zBx,show Sem.run P program w= .ok P w from rfl];simp only [Result.andThen,OB,hnm,hnb,zCQ,zFo];rfl
theorem zD6 (R:An P Γ N S ρ a w) {c:Call} {f:Operand} {g m:Nat} {cap:Nat -> DV} {d:DV} {h':DH} {ext:Bool} (o:Oper) (ho:o.op= .call c) (hc:c.callee= .value f) (hf:Ao S.fr f= .fn g m cap)
 (hE:ES P Γ g (c.args.toList.map (Ao S.fr)++(List.range m).map cap) S.h d h' ext):Bb P (execOp a.eval o) w (DY P Γ N S.h ρ w ext d h'):=by
 obtain ⟨⟨fn,OB,Kq,cr⟩,hE⟩:=hE;have hr:=Bx R f;rw [hf] at hr;obtain ⟨lb,hv,hs,L5⟩:=hr;refine .inr (.inr ⟨g,c.args.map a.eval++lb,w,?_,hE N ρ w _ R.hr (CG.append ⟨by simp,fun i hi=>?_⟩ ⟨by simp [hs],fun i hi=>?_⟩)⟩)
 ·unfold execOp;rw [ho]
  show ((resolve a.eval c o.type)>>=fun d=>invoke d.target d.args).run P w=_
  unfold resolve;rw [hc];simp only [Deferred.ofValue,hv];have he:((pure { target:=.fn (.func g) lb,args:=#[]++Array.map a.eval c.args }:Sem Deferred)>>=fun d=>invoke d.target d.args).run P w=(callFunc g (#[]++Array.map a.eval c.args++lb)).run P w:=rfl;rw [he,tr OB Kq cr];simp
 ·have A5:i<c.args.size:=by simpa using hi
  have:=Bx R c.args[i];simp [A5,this]
 ·have A5:i<m:=by simpa using hi
  obtain ⟨u,g1,g2⟩:=L5 i A5;simp [A5,g1,g2]
theorem eN (R:An P Γ N S ρ a w) {calls:List (DV×DH×Bool)} {o:Oper} {d:DV} {h':DH} {vs:List Prop} {ext:Bool} {UI:List (DV×DH×Bool)} (h:Qh P Γ S calls o.op=some (d,h',vs,ext,UI)) (hv:Bo vs):
 Bb P (execOp a.eval o) w (DY P Γ N S.h ρ w ext d h'):=by
 unfold Qh at h;split at h
 ·rename_i t x ho;split at h
  ·rename_i l hl;cases h;exact zEC R hl o ho true
  ·cases h
 ·rename_i t ho;split at h
  ·rename_i i hi;split at h
   ·rename_i z hz;split at h
    ·rename_i bU;cases h;exact zEg R hi hz bU o ho true
    ·cases h;exact zEf R hi hz o ho true
   ·cases h
  ·cases h
 ·rename_i t len parts ho;split at h
  ·rename_i k e i z hk;split at h
   ·rename_i hc;simp only [zBE,zCK] at hc;split at h
    ·rename_i ob hb;cases h;exact zEA R hk hc.1 hc.2 hb o ho true
    ·cases h
   ·cases h
  ·cases h
 ·rename_i t x y ho;split at h
  ·rename_i n e i hT;split at h
   ·rename_i k1 m k2 m' hx hy;cases h;obtain ⟨⟨rfl,v1,v2⟩,_⟩:=hv;exact xl R hT hx hy ⟨v1,v2⟩ o ho true
   ·cases h
  split at h
  ·rename_i k e i z hk;split at h
   ·rename_i E6;split at h
    ·rename_i k1 n k2 n' hx hy;cases h;obtain ⟨⟨rfl,v1,v2⟩,_⟩:=hv;exact xk R hk hx hy ⟨v1,v2⟩ (by simpa using E6) o ho true
    ·cases h
   ·cases h
  ·cases h
 ·rename_i t x y ho;split at h
  ·rename_i h1 vc hs;cases h;exact gY R hs hv.1 o ho
  ·cases h
 ·rename_i c ho;split at h
  ·rename_i hc;split at h
   ·rename_i x y ha;split at h
    ·rename_i t t' ht;split at h
     ·rename_i e;subst e;split at h
      ·rename_i d1 h1 vc cx;cases h;exact zEY R cx hv.1 o ho hc ha ht
      ·cases h
     ·cases h
    ·cases h
   ·cases h
  ·rename_i f hc;split at h
   ·rename_i g m cap d1 h1 ext1 rest hf;cases h;exact zD6 R o ho hc hf hv.1
   ·cases h
  ·cases h
 ·split at h
  ·rename_i hm;cases h;exact xj R o hm hv
  ·cases h
theorem QR (hF:EI F P) {o:Oper} (hd: ∀ c,o.op≠.defer c) {G:Value -> World -> Prop} (h:Bb P (execOp a.eval o) w G) {K:Act -> World -> Prop} {Q:Exit -> Act -> World -> Prop} (hK: ∀ v w',G v w' -> K (a.put o.dst v) w'):o.wpIn F 0 P a w K Q:=by
 refine ⟨fun f _=>hF.fn f,?_⟩;rw [zF9 _ _ _ hd];rcases h with ⟨v,w',h1,h2⟩ | ⟨w',h1,h2⟩ | ⟨f,args,w',h1,h2⟩
 ·rw [h1];exact hK v w' h2
 ·rw [h1];exact hK undef w' h2
 ·rw [h1];refine ⟨fun hx=>(by rw [hF.dep] at hx;cases hx),(hF.calls h2).mono ?_⟩;rintro e CX ⟨v,rfl,hG⟩;exact hK v CX hG
theorem d5 (hF:EI F P) (R:An P Γ N S ρ a w) {ops:Array Oper} {A0:B8} {o:Oper} (hd: ∀ c,o.op≠.defer c) {S':St} {vs:List Prop} {ext:Bool} {Cd:B8} (h:OU P Γ ops S A0 o=some (S',vs,ext,Cd)) (hv:Bo vs)
 {K:Act -> World -> Prop} {Q:Exit -> Act -> World -> Prop} (hK: ∀ ρ' a' w',An P Γ N S' ρ' a' w' -> Ew S.h ρ w S'.h ρ' w' -> a'.defers=a.defers -> (ext=true -> A4 w w') -> K a' w'):
 if Region.wanted o (yielded ops a.tmps) then o.wpIn F 0 P a w K Q else (∀ f,o.about P w a.eval=some f -> F.fn f)/\ K (a.put o.dst undef) w:=by
 have Dv: ∀ v,(a.put o.dst v).defers=a.defers:=fun v=>by cases ho:o.dst <;> simp [Act.put]
 unfold OU at h;split at h
 ·cases h
 ·rename_i hw;cases h;rw [zBP (by rw [LF R hw];exact zF7)];exact ⟨fun f _=>hF.fn f,hK ρ _ _ (JP R _ Uv) (Ew.refl _ _ _) (Dv _) fun _=>A4.refl w⟩
 ·rename_i hw;rw [zAE (LF R hw)];split at h
  ·rename_i S1 C1 hM;cases h;exact QR hF hd (gX R hM hv) fun v w' ⟨⟨ρ',g1,g2⟩,_⟩=>hK ρ' _ _ g1 g2 (Dv v) fun e=>by cases e
  split at h
  ·cases h
  ·rename_i d h1 C1 ext1 calls cy;split at h;rename_i d' Bz Dy Te;split at h
   ·cases h
   ·rename_i S2 Yp dR It;cases h;obtain ⟨Bn,bq⟩:=DM.1 hv;obtain ⟨CT,Nr⟩:=DM.1 bq;refine QR hF hd (eN R cy Bn) fun v w' G=>?_
    obtain ⟨ρ',g1,g2⟩:=Tl R o.dst G (d':=d') fun M ρ' hr=>dj Te CT hr
    obtain ⟨g3,g4⟩:=dS _ It Nr P Γ N ρ' _ _ g1;exact hK ρ' _ _ g3 (g2.trans ⟨g4,fun _ _ h=>h⟩) (Dv v) G.ext
theorem L8 (hF:EI F P) {ops:Array Oper} (Av:EV ops=true) {Q:Exit -> Act -> World -> Prop}: ∀ (l:List Oper) (_: ∀ o∈l,o∈ops) {S:St} {ρ:List AN} {a:Act} {w:World} {A0:B8} {S':St} {vs:List Prop} {Cd:B8},
 An P Γ N S ρ a w -> E7 P Γ ops l S A0=some (S',vs,Cd) -> Bo vs ->
 (∀ ρ' a' w',An P Γ N S' ρ' a' w' -> Ew S.h ρ w S'.h ρ' w' -> a'.defers=a.defers -> Q .normal a' w') -> wpListIn F 0 P ops Q l a w
 | [],_,S,ρ,a,w,A0,S',vs,Cd,R,h,_,hQ=>by
  cases h;exact hQ ρ a w R (Ew.refl _ _ _) rfl
 | o::rest,hl,S,ρ,a,w,A0,S',vs,Cd,R,h,hv,hQ=>by
  have hd: ∀ c,o.op≠.defer c:=by
   obtain ⟨j,hj,e⟩:=Array.getElem_of_mem (hl o (by simp));exact Ii Av (j:=j) (by rw [zE9 hj,e])
  have Ck: ∀ o∈rest,o∈ops:=fun o ho=>hl o (by simp [ho])
  have Dv: ∀ v,(a.put o.dst v).defers=a.defers:=fun v=>by cases ho:o.dst <;> simp [Act.put]
  simp only [E7] at h;unfold wpListIn;split at h
  ·split at h
   ·cases h
   ·rename_i S1 C1 ext1 NO h1;split at h
    ·cases h
    ·rename_i S2 FW Hu h2;cases h;obtain ⟨Bn,CT⟩:=DM.1 hv;exact d5 hF R hd h1 Bn fun ρ' a' w' R' st Ea _=>L8 hF Av rest Ck R' h2 CT fun ρ'' Gw CX GW E2 Iu=>hQ ρ'' Gw CX GW (st.trans E2) (Iu.trans Ea)
  ·split at h
   ·cases h
   ·rename_i S1 C1 UF h1;split at h
    ·cases h
    ·rename_i S2 FW Hu h2;cases h;obtain ⟨Bn,CT⟩:=DM.1 hv;obtain ⟨e1,hs⟩:=V7 R h1 Bn
     have go: ∀ v,An P Γ N S1 ρ (a.put o.dst v) w -> wpListIn F 0 P ops Q rest (a.put o.dst v) w:=fun v R'=>
      L8 hF Av rest Ck R' h2 CT fun ρ'' Gw CX GW E2 Iu=>hQ ρ'' Gw CX GW (by rw [←e1];exact E2) (Iu.trans (Dv v))
     rcases hs with ⟨hw,v,g1,g2⟩ | ⟨hw,g2⟩
     ·rw [zAE hw];refine ⟨fun f _=>hF.fn f,?_⟩;rw [zF9 _ _ _ hd,g1 w (Keep.ofExt (A4.refl w))];exact go v g2
     ·rw [zBP (by rw [hw];exact zF7)];exact ⟨fun f _=>hF.fn f,go undef g2⟩
theorem aL {ops:Array Oper}: ∀ (l:List Nat),∀ o∈Ff ops l,o∈ops
 | [],o,h=>by simp [Ff] at h
 | i::l,o,h=>by
  simp only [Ff] at h;split at h
  ·rename_i o' ho;rcases zCB.1 h with rfl | h
   ·exact zFl ho
   ·exact aL l o h
  ·exact aL l o h
theorem me (hF:EI F P) {ops:Array Oper} (Av:EV ops=true) {Q:Exit -> Act -> World -> Prop}: ∀ (Ei:List (List Nat×Nat)) (Bm tail:List Nat) {S:St} {ρ:List AN} {a:Act} {w:World} {A0:B8} {S':St} {vs:List Prop} {Cd:B8},
 (tail.all fun t=>decide (t<ops.size))=true -> An P Γ N S ρ a w -> hseq P Γ ops Ei Bm tail S A0=some (S',vs,Cd) -> Bo vs ->
 (∀ ρ' a' w',An P Γ N S' ρ' a' w' -> Ew S.h ρ w S'.h ρ' w' -> a'.defers=a.defers -> Q .normal a' w') -> Tb F 0 P ops Q Ei Bm tail a w
 | [],Bm,tail,S,ρ,a,w,A0,S',vs,Cd,ht,R,h,hv,hQ=>by
  simp only [hseq] at h;split at h
  ·cases h
  ·rename_i S1 C1 UF h1;split at h
   ·cases h
   ·rename_i S2 FW Hu h2;cases h;obtain ⟨Bn,CT⟩:=DM.1 hv;refine zBp ht (V8 _ R h1 Bn fun a' e1 R' Ea=>?_);exact L8 hF Av _ (aL tail) R' h2 CT fun ρ'' Gw CX GW E2 Iu=>hQ ρ'' Gw CX GW (by rw [←e1];exact E2) (Iu.trans Ea)
 | (Hl,i)::GL,Bm,tail,S,ρ,a,w,A0,S',vs,Cd,ht,R,h,hv,hQ=>by
  simp only [hseq] at h;split at h
  ·cases h
  ·rename_i S1 C1 UF h1;split at h
   ·cases h
   ·rename_i o ho;split at h
    ·cases h
    ·rename_i S2 FW ext Hu h2;split at h
     ·cases h
     ·split at h
      ·cases h
      ·rename_i S3 Uq PM h3;cases h;obtain ⟨Bn,Ct⟩:=DM.1 hv;obtain ⟨CT,Nr⟩:=DM.1 Ct
       show wpQuiet _ _ _ _ _ _
       refine V8 _ R h1 Bn fun a' e1 R' Ea=>?_
       unfold wpOpIn;simp only [ho];refine d5 hF R' (Ii Av ho) h2 CT fun ρ'' Gw CX GW E2 Iu Ju=>?_
       rw [e1] at E2;exact ⟨Ju rfl,me hF Av GL Bm tail ht GW h3 Nr fun ρ3 a3 w3 R3 Oj zBv=>hQ ρ3 a3 w3 R3 (E2.trans Oj) (zBv.trans (Iu.trans Ea))⟩
end
end Go.Proofs.YtekkngkphejfcaaGreatDoor
namespace Go.Proofs.YtekkngkphejfcaaGreatDoor
abbrev zE6:=@Nat.zero_le
end Go.Proofs.YtekkngkphejfcaaGreatDoor
namespace Go.Proofs.YtekkngkphejfcaaGreatDoor
open Go.RowKit
def Ef (L:Nat) (ρ ρ':List AN):Prop:=∀ (k:Nat) (p:AN),k<L -> ρ[k]? =some p -> ρ'[k]? =some p
theorem Ef.refl (L:Nat) (ρ:List AN):Ef L ρ ρ:=fun _ _ _ h=>h
theorem Ef.trans {L:Nat} {a b c:List AN} (h:Ef L a b) (k:Ef L b c):Ef L a c:=fun i p hi hp=>k i p hi (h i p hi hp)
structure Bd (F:Fence) (B:Option Nat) (w:World):Prop where
 le: ∀ b,B=some b -> b<=w.heap.size
 rd: ∀ l,F.round=some l -> ∃ r,w.heap[l]? =some (.loop r)
theorem Bd.step {P:Program} {Γ:A6} {N:Nat -> Prop} {h h':DH} {ρ ρ':List AN} {F:Fence} {B:Option Nat} {w w':World} (b:Bd F B w) (H:BX P Γ N h ρ w) (st:BL h ρ w h' ρ' w'):Bd F B w':=
 ⟨fun x e=>zBO (b.le x e) st.upd.size,fun l hl=>by
  obtain ⟨r,hr⟩:=b.rd l hl;refine ⟨r,(st.upd.block l (zBG.1 hr).1 ?_).trans hr⟩;rintro ⟨k,o,p,h1,h2,h3⟩;obtain ⟨_,_,c,t,z,h4⟩:=H.cel k o p l h1 h2 h3;rw [hr] at h4;cases h4;cases t⟩
theorem Bd.wide {B:Nat} {w:World} (h:B<=w.heap.size):Bd Fence.wide (some B) w:=⟨fun b e=>by cases e;exact h,fun l hl=>by cases hl⟩
theorem Bd.none {w:World}:Bd Fence.wide none w:=⟨fun b e=>(by cases e),fun l hl=>by cases hl⟩
def Oc:Option Nat -> List Deferred -> World -> Prop
 | none,ds,_=>ds= []
 | some B,ds,w=>Ee B ds w
structure Be (P:Program) (Γ:A6) (L:Nat) where
 I:(Nat -> Prop) -> DH -> List AN -> World -> Prop
 st: ∀ {N:Nat -> Prop} {h:DH} {ρ:List AN} {w:World} {h':DH} {ρ':List AN} {w':World},I N h ρ w -> BX P Γ N h ρ w -> BX P Γ N h' ρ' w' -> BL h ρ w h' ρ' w' -> Ef L ρ ρ' -> I N h' ρ' w'
def Q7 (P:Program) (Γ:A6) (L:Nat) (N0:Nat -> Prop) (h0:DH) (ρ0:List AN) (w0:World):Be P Γ L where
 I:=fun N h ρ w=>N=N0/\ BL h0 ρ0 w0 h ρ w/\ Ef L ρ0 ρ
 st:=fun ⟨e,s,k⟩ _ _ st k'=>⟨e,s.trans st,k.trans k'⟩
abbrev QY (P:Program) (Γ:A6) (L:Nat):=Exit -> St -> Be P Γ L -> Prop
def QE {P:Program} {Γ:A6} {L:Nat} (Q:QY P Γ L):Exit -> St -> Be P Γ L -> Prop
 | .panic _,_,_=>False
 | .outgrown,_,_=>False
 | e,S,Y=>Q e S Y
def Tr (P:Program) (Γ:A6) (F:Fence) (B:Option Nat) (L:Nat) (Y:Be P Γ L) (c:Code) (S:St) (Q:QY P Γ L):Prop:=
 ∀ N ρ a w,An P Γ N S ρ a w -> Y.I N S.h ρ w -> Oc B a.defers w -> Bd F B w ->
  c.wpIn F 0 P (fun e a' w'=>∃ S' ρ' N' Y',QE Q e S' Y'/\ An P Γ N' S' ρ' a' w'/\ Y'.I N' S'.h ρ' w'/\ Oc B a'.defers w'/\ Bd F B w') a w
def BR (L:Nat) (S S':St):Prop:=∀ P Γ N ρ a w,An P Γ N S ρ a w -> ∃ ρ',An P Γ N S' ρ' a w/\ BL S.h ρ w S'.h ρ' w/\ Ef L ρ ρ'
theorem BR.refl (L:Nat) (S:St):BR L S S:=fun _ _ _ ρ _ _ R=>⟨ρ,R,BL.refl _ _ _,Ef.refl _ _⟩
theorem BR.trans {L:Nat} {A B C:St} (h:BR L A B) (k:BR L B C):BR L A C:=fun P Γ N ρ a w R=>by
 obtain ⟨ρ1,R1,s1,k1⟩:=h P Γ N ρ a w R;obtain ⟨ρ2,R2,s2,k2⟩:=k P Γ N ρ1 a w R1;exact ⟨ρ2,R2,s1.trans s2,k1.trans k2⟩
section
variable {P:Program} {Γ:A6} {N:Nat -> Prop} {S:St} {F:Fence} {B:Option Nat} {L:Nat} {Y:Be P Γ L} {Q Q':QY P Γ L}
theorem QE.mono (h: ∀ e S Y,Q e S Y -> Q' e S Y) {e:Exit} {S:St} (hq:QE Q e S Y):QE Q' e S Y:=by
 cases e <;> first | exact hq | exact h _ _ _ hq
theorem Tr.mono {c:Code} (h:Tr P Γ F B L Y c S Q) (hq: ∀ e S Y,Q e S Y -> Q' e S Y):Tr P Γ F B L Y c S Q':=fun N ρ a w R y m b=>
 zF1 (h N ρ a w R y m b) fun _ _ _ ⟨S',ρ',N',Y',h1,h2⟩=>⟨S',ρ',N',Y',h1.mono hq,h2⟩
theorem Tr.weaken {c:Code} {S':St} (hS:BR L S S') (h:Tr P Γ F B L Y c S' Q):Tr P Γ F B L Y c S Q:=fun N ρ a w R y m b=>by
 obtain ⟨ρ1,R1,s1,k1⟩:=hS P Γ N ρ a w R;exact h N ρ1 a w R1 (Y.st y R.hr R1.hr s1 k1) m b
theorem Sz {ρ ρ':List AN} {h':DH} {ds:List Deferred} {w w':World} (H:BX P Γ N S.h ρ w) (st:BL S.h ρ w h' ρ' w') (m:Oc B ds w):Oc B ds w':=by
 cases B with
 | none=>exact m
 | some B=>
 refine Ee.upd st.upd m fun k _ hk e=>?_
 obtain ⟨i,o,p,h1,h2,h3⟩:=hk;obtain ⟨_,_,c,t,z,h4⟩:=H.cel i o p k h1 h2 h3;rw [h4] at e;cases e;cases t
theorem Tr.skip (h:Q .normal S Y):Tr P Γ F B L Y .skip S Q:=fun N ρ _ _ R y m b=>wpIn_skip ⟨S,ρ,N,Y,h,R,y,m,b⟩
theorem Tr.ret (h:Q .ret S Y):Tr P Γ F B L Y .ret S Q:=fun N ρ _ _ R y m b=>wpIn_ret ⟨S,ρ,N,Y,h,R,y,m,b⟩
theorem Tr.exit {id:Nat} (h:Q (.exit id) S Y):Tr P Γ F B L Y (.exit id) S Q:=fun N ρ _ _ R y m b=>wpIn_exit ⟨S,ρ,N,Y,h,R,y,m,b⟩
def Q2 (K:St -> Be P Γ L -> Prop) (Q:QY P Γ L):QY P Γ L
 | .normal,S,Y=>K S Y
 | e,S,Y=>Q e S Y
theorem Tr.seq {x y:Code} (h:Tr P Γ F B L Y x S (Q2 (fun S' Y'=>Tr P Γ F B L Y' y S' Q) Q)):Tr P Γ F B L Y (.seq x y) S Q:=fun N ρ a w R y m b=>by
 refine wpIn_seq (zF1 (h N ρ a w R y m b) ?_);rintro e a' w' ⟨S',ρ',N',Y',h1,h2,h3,h4,h5⟩;cases e with
 | normal=>exact h1 N' ρ' a' w' h2 h3 h4 h5
 | ret=>exact ⟨S',ρ',N',Y',h1,h2,h3,h4,h5⟩
 | exit id=>exact ⟨S',ρ',N',Y',h1,h2,h3,h4,h5⟩
 | goto t=>exact ⟨S',ρ',N',Y',h1,h2,h3,h4,h5⟩
 | panic c=>exact h1.elim
 | outgrown=>exact h1.elim
theorem Tr.cond {c:Operand} {x y:Code} {b:Bool} (hc:Ao S.fr c= .bool b) (h1:b=true -> Tr P Γ F B L Y x S Q) (h2:b=false -> Tr P Γ F B L Y y S Q):Tr P Γ F B L Y (.cond c x y) S Q:=fun N ρ a w R y m bb=>by
 have hr:=Bx R c;rw [hc] at hr;refine wpIn_cond (t:=b) hr ?_;cases b
 ·exact h2 rfl N ρ a w R y m bb
 ·exact h1 rfl N ρ a w R y m bb
theorem qR {F:Fence} {n:Nat} {P:Program} {Q:Exit -> Act -> World -> Prop} {a:Act} {w:World} {c:Code} (h:c.wpIn F n P (Exit.noGoto Q) a w):(Code.scope c).wpIn F n P Q a w:=by
 intro b k cs zx hb hr;have h0:(lone (b.atR a (.code (.scope c)::k)) cs w).fenced P F:=fenced_calm hb hr rfl;have s0:step P (lone (b.atR a (.code (.scope c)::k)) cs w)= .next (lone (b.atR a (.code c:: .inScope c::k)) cs w):=step_lone_go (by simp [stepG,stepG.exec,Frame.atR]);obtain ⟨e,a₁,w₁,hq,P7⟩:=h b (.inScope c::k) cs zx hb hr;have s1:step P (lone (b.atR a₁ (.inScope c::k)) cs w₁)= .next (lone (b.atR a₁ k) cs w₁):=step_lone_go (by simp [stepG,stepG.exec,Frame.atR]);cases e with
 | normal=>exact ⟨.normal,a₁,w₁,hq,.head h0 s0 (StepsIn.trans P7 (.one (fenced_calm hb hr rfl) s1))⟩
 | exit id=>exact ⟨.exit id,a₁,w₁,hq,fun k' hk=>.head h0 s0 (P7.1 k' hk),fun C7 hk=>let ⟨k₁,h1,h2⟩:=P7.2 C7 hk;⟨k₁,h1,.head h0 s0 h2⟩⟩
 | goto l=>exact hq.elim
 | ret=>exact ⟨_,a₁,w₁,hq,.of_steps (.one h0 s0) P7⟩
 | panic ch=>exact ⟨_,a₁,w₁,hq,.of_steps (.one h0 s0) P7⟩
 | outgrown=>exact ⟨_,a₁,w₁,hq,.of_steps (.one h0 s0) P7⟩
def xa (Q:QY P Γ L):QY P Γ L
 | .goto _,_,_=>False
 | e,S,Y=>Q e S Y
theorem Tr.scope {c:Code} (h:Tr P Γ F B L Y c S (xa Q)):Tr P Γ F B L Y (.scope c) S Q:=fun N ρ a w R y m b=>by
 refine qR (zF1 (h N ρ a w R y m b) ?_);rintro e a' w' ⟨S',ρ',N',Y',h1,h2⟩;cases e with
 | goto l=>exact h1.elim
 | _=>exact ⟨S',ρ',N',Y',h1,h2⟩
theorem Tr.label {l:Nat} (h:Q .normal S Y):Tr P Γ F B L Y (.label l) S Q:=fun N ρ a w R y m b=>wpIn_label ⟨S,ρ,N,Y,h,R,y,m,b⟩
def zEE (id:Nat) (Q:QY P Γ L):QY P Γ L
 | .exit i,S,Y=>if i=id then Q .normal S Y else Q (.exit i) S Y
 | e,S,Y=>Q e S Y
theorem Tr.block {id:Nat} {c:Code} (h:Tr P Γ F B L Y c S (zEE id Q)):Tr P Γ F B L Y (.block id c) S Q:=fun N ρ a w R y m b=>by
 refine wpIn_block (zF1 (h N ρ a w R y m b) ?_);rintro e a' w' ⟨S',ρ',N',Y',h1,h2⟩;cases e with
 | exit i=>
  show if i=id then _ else _
  by_cases e:i=id
  ·rw [zAE e];have h1:(if i=id then Q .normal S' Y' else Q (.exit i) S' Y'):=h1;rw [zAE e] at h1;exact ⟨S',ρ',N',Y',h1,h2⟩
  ·rw [zBP e];have h1:(if i=id then Q .normal S' Y' else Q (.exit i) S' Y'):=h1;rw [zBP e] at h1;exact ⟨S',ρ',N',Y',h1,h2⟩
 | normal=>exact ⟨S',ρ',N',Y',h1,h2⟩
 | ret=>exact ⟨S',ρ',N',Y',h1,h2⟩
 | goto t=>exact ⟨S',ρ',N',Y',h1,h2⟩
 | panic c=>exact h1.elim
 | outgrown=>exact h1.elim
theorem Tr.loop {c:Code} (I:Nat -> St -> Be P Γ L -> Prop) (n:Nat) (h0:I n S Y) (h: ∀ n S Y,I n S Y -> Tr P Γ F B L Y c S (Q2 (fun S' Y'=>∃ n',n'<n/\ I n' S' Y') Q)):Tr P Γ F B L Y (.loop c) S Q:=fun N ρ a w R y m b=>by
 refine wpIn_loop_ghost (fun k a' w'=>∃ S' ρ' N' Y',I k S' Y'/\ An P Γ N' S' ρ' a' w'/\ Y'.I N' S'.h ρ' w'/\ Oc B a'.defers w'/\ Bd F B w') n ⟨S,ρ,N,Y,h0,R,y,m,b⟩ ?_;rintro k a' w' ⟨S',ρ',N',Y',h1,h2,h3,h4,h5⟩;refine zF1 (h k S' Y' h1 N' ρ' a' w' h2 h3 h4 h5) ?_;rintro e a2 w2 ⟨S2,ρ2,N2,Y2,g1,g2,g3,g4,g5⟩;cases e with
 | normal=>
  obtain ⟨n',AP,hI⟩:=g1;exact ⟨n',AP,S2,ρ2,N2,Y2,hI,g2,g3,g4,g5⟩
 | ret=>exact ⟨S2,ρ2,N2,Y2,g1,g2,g3,g4,g5⟩
 | exit id=>exact ⟨S2,ρ2,N2,Y2,g1,g2,g3,g4,g5⟩
 | goto t=>exact ⟨S2,ρ2,N2,Y2,g1,g2,g3,g4,g5⟩
 | panic c=>exact g1.elim
 | outgrown=>exact g1.elim
theorem An.ext {ρ:List AN} {a:Act} {w w':World} (R:An P Γ N S ρ a w) (hE:A4 w w'):An P Γ N S ρ a w':=⟨R.hr.ext hE,R.fr.out (Ba.ext ρ hE)⟩
theorem Tr.done {S':St} {e:Exit} {ρ ρ':List AN} {a a':Act} {w w':World} (R:An P Γ N S ρ a w) (y:Y.I N S.h ρ w) (m:Oc B a.defers w) (b:Bd F B w) (hk:QE Q e S' Y) (R':An P Γ N S' ρ' a' w') (st:BL S.h ρ w S'.h ρ' w') (cV:Ef L ρ ρ') (Ea:a'.defers=a.defers):
 ∃ S' ρ' N' Y',QE Q e S' Y'/\ An P Γ N' S' ρ' a' w'/\ Y'.I N' S'.h ρ' w'/\ Oc B a'.defers w'/\ Bd F B w':=
 ⟨S',ρ',N,Y,hk,R',Y.st y R.hr R'.hr st cV,by rw [Ea];exact Sz R.hr st m,b.step R.hr st⟩
theorem BR.fr {fr OI:List DV} {h:DH} (hl:OI.length=fr.length) (hd: ∀ i,i<fr.length -> AS (fr.getD i .any) (OI.getD i .any)):BR L ⟨fr,h⟩ ⟨OI,h⟩:=fun P Γ N ρ a w R=>
 ⟨ρ,⟨R.hr,⟨by rw [hl];exact R.fr.1,fun i hi=>hd i (by rw [←hl];exact hi) _ _ _ _ (R.fr.2 i (by rw [←hl];exact hi))⟩⟩,BL.refl _ _ _,Ef.refl _ _⟩
theorem AS.refl (d:DV):AS d d:=fun _ _ _ _ h=>h
theorem AS.any (d:DV):AS d .any:=fun _ _ _ _ _=>trivial
theorem AS.int {k:IntKind} {a b:Int} (h:a=b):AS (.int k a) (.int k b):=by rw [h];exact AS.refl _
theorem AS.bool {a b:Bool} (h:a=b):AS (.bool a) (.bool b):=by rw [h];exact AS.refl _
theorem AS.ints_nil:AS .nils (.ints []):=fun M w ρ v h=>⟨none,0,h,zBa _,zE6 _,fun j hj=>absurd hj (zBW j)⟩
theorem AS.sl_nil (m:Nat) (f:Nat -> Nat -> DV):AS .nils (.sl m 0 f):=fun M w ρ v h=>⟨none,0,h,zBa _,zE6 _,fun i j hi=>absurd hi (zBW i)⟩
def forget (live:List Nat) (fr:List DV):List DV:=(fr.zipIdx).map fun x=>if live.contains x.2 then x.1 else .any
theorem zCd (live:List Nat) (fr:List DV):(forget live fr).length=fr.length:=by simp [forget]
theorem zCe (live:List Nat) (fr:List DV) {i:Nat} (hi:i<fr.length):(forget live fr).getD i .any=if live.contains i then fr.getD i .any else .any:=by
 simp [forget,hi]
theorem BR.forget (live:List Nat) (fr:List DV) (h:DH):BR L ⟨fr,h⟩ ⟨forget live fr,h⟩:=BR.fr (zCd _ _) fun i hi=>by
 rw [zCe live fr hi];split
 ·exact AS.refl _
 ·exact AS.any _
def C3:List Nat -> Nat -> Option Nat
 | [],_=>none
 | x::σ,k=>if x=k then some 0 else (C3 σ k).map (· +1)
def Fb (σ:List Nat):DV -> DV
 | .ref k j=>match C3 σ k with
  | some k'=>.ref k' j
  | none=>.any
 | .mse k m off n=>match C3 σ k with
  | some k'=>.mse k' m off n
  | none=>.any
 | .mri k i=>match C3 σ k with
  | some k'=>.mri k' i
  | none=>.any
 | .msl k m off n=>match C3 σ k with
  | some k'=>.msl k' m off n
  | none=>.any
 | .mp k m i j=>match C3 σ k with
  | some k'=>.mp k' m i j
  | none=>.any
 | .it k=>match C3 σ k with
  | some k'=>.it k'
  | none=>.any
 | .agg m f=>.agg m fun j=>((List.range m).map fun i=>Fb σ (f i)).getD j .any
 | .tup m f=>.tup m fun j=>((List.range m).map fun i=>Fb σ (f i)).getD j .any
 | .fn g m c=>.fn g m fun j=>((List.range m).map fun i=>Fb σ (c i)).getD j .any
 | d=>d
def Vc (σ:List Nat):Option DO -> Option DO
 | some (.cells l)=>some (.cells (l.map (Fb σ)))
 | o=>o
def Fp (σ:List Nat) (S:St):St:=⟨S.fr.map (Fb σ),σ.map fun k=>Vc σ (S.h.getD k none)⟩
theorem JT: ∀ {σ:List Nat} {k k':Nat},C3 σ k=some k' -> σ[k']? =some k
 | [],_,_,h=>by cases h
 | x::σ,k,k',h=>by
  unfold C3 at h;split at h
  ·rename_i e;cases h;subst e;rfl
  ·cases hr:C3 σ k with
   | none=>rw [hr] at h;cases h
   | some i=>
    rw [hr] at h;have e:k'=i+1:=(zBK h).symm;subst e;have:=JT hr;simpa using this
theorem u0 {f:Nat -> DV} {m j:Nat} (hj:j<m):((List.range m).map f).getD j .any=f j:=by simp [hj]
theorem Zl {M:Nat -> Prop} {w:World} {ρ:List AN} {f:Nat -> DV} {m j:Nat} {u:Value} (hj:j<m) (h:AQ M w (f j) ρ u):AQ M w (((List.range m).map f).getD j .any) ρ u:=by rw [u0 hj];exact h
theorem uc {M M':Nat -> Prop} {w:World} {σ:List Nat} {ρ ρ':List AN} (hM: ∀ b,M' b -> M b) (hρ: ∀ (k k':Nat) (p:AN),σ[k']? =some k -> ρ[k]? =some p -> ρ'[k']? =some p): ∀ (d:DV) {v:Value},AQ M w d ρ v -> AQ M' w (Fb σ d) ρ' v:=by
 have low: ∀ (d:DV) {v:Value},AQ M w d [] v -> AQ M' w d [] v:=fun d v h=>h.out d ⟨fun _ _ _ _=>rfl,fun b hb=>.inl (hM b hb),fun k p hk=>by simp at hk⟩
 intro d
 induction d with
 | any=>intro v _;trivial
 | nils=>intro v h;exact h
 | int k n=>intro v h;exact h
 | bool b=>intro v h;exact h
 | str s=>intro v h;exact h
 | ints l=>intro v h;exact low (.ints l) h
 | bools l=>intro v h;exact low (.bools l) h
 | sl m n f _=>intro v h;exact low (.sl m n f) h
 | fp m f _=>intro v h;exact low (.fp m f) h
 | agg m f ih=>
  rintro v ⟨cs,e,hs,h⟩;exact ⟨cs,e,hs,fun j hj=>let ⟨u,h1,h2⟩:=h j hj;⟨u,h1,Zl hj (ih j h2)⟩⟩
 | tup m f ih=>
  rintro v ⟨cs,e,hs,h⟩;exact ⟨cs,e,hs,fun j hj=>let ⟨u,h1,h2⟩:=h j hj;⟨u,h1,Zl hj (ih j h2)⟩⟩
 | fn g m c ih=>
  rintro v ⟨cs,e,hs,h⟩;exact ⟨cs,e,hs,fun j hj=>let ⟨u,h1,h2⟩:=h j hj;⟨u,h1,Zl hj (ih j h2)⟩⟩
 | ref k j=>
  rintro v ⟨p,hp,e⟩;simp only [Fb];cases hk:C3 σ k with
  | none=>trivial
  | some k'=>exact ⟨p,hρ k k' p (JT hk) hp,e⟩
 | msl k m off n=>
  rintro v ⟨p,cap,hp,r⟩;simp only [Fb];cases hk:C3 σ k with
  | none=>trivial
  | some k'=>exact ⟨p,cap,hρ k k' p (JT hk) hp,r⟩
 | mp k m i j=>
  rintro v ⟨p,hp,e⟩;simp only [Fb];cases hk:C3 σ k with
  | none=>trivial
  | some k'=>exact ⟨p,hρ k k' p (JT hk) hp,e⟩
 | yl l=>intro v h;exact h
 | cst u=>intro v h;exact h
 | mse k m off n=>
  rintro v ⟨p,a,cap,hp,r⟩;simp only [Fb];cases hk:C3 σ k with
  | none=>trivial
  | some k'=>exact ⟨p,a,cap,hρ k k' p (JT hk) hp,r⟩
 | mri k i=>
  rintro v ⟨p,vs,hp,r⟩;simp only [Fb];cases hk:C3 σ k with
  | none=>trivial
  | some k'=>exact ⟨p,vs,hρ k k' p (JT hk) hp,r⟩
 | it k=>
  rintro v ⟨p,hp,e⟩;simp only [Fb];cases hk:C3 σ k with
  | none=>trivial
  | some k'=>exact ⟨p,hρ k k' p (JT hk) hp,e⟩
def ab:AN:=⟨0,0,0,undef,fun _=>False⟩
theorem BR.compact (σ:List Nat) (S:St) (h1:σ.Nodup) (h2: ∀ k∈σ,k<S.h.length) (h3: ∀ k,k<L -> σ[k]? =some k):BR L S (Fp σ S):=fun P Γ N ρ a w R=>by
 obtain ⟨ρ',GP⟩: ∃ ρ',ρ'=σ.map fun k=>ρ.getD k ab:=⟨_,rfl⟩
 have I3: ∀ {k':Nat} {p:AN},ρ'[k']? =some p -> ∃ k,σ[k']? =some k/\ ρ[k]? =some p:=fun {k' p} h=>by
  rw [GP,zBn] at h;cases hk:σ[k']? with
  | none=>rw [hk] at h;cases h
  | some k=>
   rw [hk] at h;have AP:k<ρ.length:=by rw [R.hr.len];exact h2 k (zCc hk)
   refine ⟨k,rfl,?_⟩;simp [AP] at h;simp [AP,h]
 have put: ∀ (k k':Nat) (p:AN),σ[k']? =some k -> ρ[k]? =some p -> ρ'[k']? =some p:=fun k k' p hk hp=>by
  rw [GP,zBn,hk];simp [u8,hp]
 have Is: ∀ {k':Nat} {o':DO},(Fp σ S).h[k']? =some (some o') -> ∃ k o,σ[k']? =some k/\ S.h[k]? =some (some o)/\ Vc σ (some o)=some o':=fun {k' o'} h=>by
  show ∃ k o,_
  have h:(σ.map fun k=>Vc σ (S.h.getD k none))[k']? =some (some o'):=h;rw [zBn] at h;cases hk:σ[k']? with
  | none=>rw [hk] at h;cases h
  | some k=>
   rw [hk] at h;have AP:k<S.h.length:=h2 k (zCc hk);have h:Vc σ (S.h.getD k none)=some o':=zBK h;have e:S.h.getD k none=S.h[k]:=by simp [AP]
   rw [e] at h;cases ho:S.h[k] with
   | none=>rw [ho] at h;cases h
   | some o=>rw [ho] at h;exact ⟨k,o,rfl,by simp [AP,ho],h⟩
 have hM: ∀ b,MO (Fp σ S).h ρ' b -> MO S.h ρ b:=by
  rintro b ⟨k',o',p,g1,g2,g3⟩;obtain ⟨k,o,e1,e2,_⟩:=Is g1;obtain ⟨k2,e3,e4⟩:=I3 g2;have:k2=k:=zBK (e3.symm.trans e1);subst this;exact ⟨k2,o,p,e2,e4,g3⟩
 have dB: ∀ b,MS N (Fp σ S).h ρ' b -> MS N S.h ρ b:=fun b hb=>hb.imp id (hM b)
 have O:Ba (MS N S.h ρ) w [] (MS N (Fp σ S).h ρ') w []:=⟨fun _ _ _ _=>rfl,fun b hb=>.inl (dB b hb),fun k p hk=>by simp at hk⟩;have low: ∀ (d:DV) {v:Value},AQ (MS N S.h ρ) w d ρ v -> AQ (MS N (Fp σ S).h ρ') w (Fb σ d) ρ' v:=fun d v h=>uc dB put d h
 refine ⟨ρ',⟨⟨by simp [GP,Fp],fun k' o' Di=>?_,fun k' o' p b g1 g2 g3=>?_,fun i i' o1 o2 p1 p2 b AY g1 g2 g3 g4 g5 g6=>?_,R.hr.nlt,R.hr.gi⟩,⟨by simp [Fp,R.fr.1],fun i hi=>?_⟩⟩,⟨AV.refl _ w,fun b hb=>.inl (hM b hb)⟩,fun k p hk hp=>put k k p (h3 k hk) hp⟩
 ·obtain ⟨k,o,e1,e2,e3⟩:=Is Di;obtain ⟨p,hp,hr⟩:=R.hr.obj k o e2;refine ⟨p,put k k' p e1 hp,?_⟩;cases o with
  | cells l=>
   cases e3
   show Ag w p (l.map (Fb σ)).length _
   rw [zE4];refine Ag.out hr rfl fun j u hj hu=>?_
   have:(l.map (Fb σ)).getD j .any=Fb σ (l.getD j .any):=by simp [hj]
   rw [this];exact low _ hu
  | ints l=>cases e3;exact Ag.out hr rfl fun j u _ hu=>hu
  | bools l=>cases e3;exact Ag.out hr rfl fun j u _ hu=>hu
  | arr m n f=>cases e3;exact Ag.out hr rfl fun j u _ hu=>AQ.out _ O hu
  | iter encs=>
   cases e3;obtain ⟨gf,lb,Rd,q1,q2,q3,q4⟩:=hr;exact ⟨gf,lb,Rd,q1,q2,fun b hb=>⟨fun hm=>(q3 b hb).1 (dB b hm),(q3 b hb).2⟩,q4⟩
  | mo x=>cases e3;exact hr
 ·obtain ⟨k,o,e1,e2,_⟩:=Is g1;obtain ⟨k2,e3,e4⟩:=I3 g2;have:k2=k:=zBK (e3.symm.trans e1);subst this;exact R.hr.cel k2 o p b e2 e4 g3
 ·obtain ⟨k,o,e1,e2,_⟩:=Is g1;obtain ⟨k2,o2,e3,e4,_⟩:=Is g2;obtain ⟨k3,e5,e6⟩:=I3 g3;obtain ⟨k4,e7,e8⟩:=I3 g4;have:k3=k:=zBK (e5.symm.trans e1);subst this;have:k4=k2:=zBK (e7.symm.trans e3);subst this;refine R.hr.dis k3 k4 o o2 p1 p2 b (fun e=>AY ?_) e2 e4 e6 e8 g5 g6;subst e;exact (List.getElem?_inj (zBN.1 e5).1 h1).1 (e5.trans e7.symm)
 ·have A5:i<S.fr.length:=by simpa [Fp] using hi
  have:(Fp σ S).fr.getD i .any=Fb σ (S.fr.getD i .any):=by simp [Fp,A5]
  rw [this];exact low _ (R.fr.2 i A5)
end
end Go.Proofs.YtekkngkphejfcaaGreatDoor
namespace Go.Proofs.YtekkngkphejfcaaGreatDoor
open Go.RowKit
def iz (P:Program) (S:St):ResultVar -> Option DV
 | .tmp t=>some (S.fr.getD t .any)
 | .cell x t=>match S.fr.getD x .any with
  | .ref k j=>match Nb P S t (.ref k j) with
   | some (d,_)=>some d
   | none=>none
  | _=>none
def Oz (P:Program) (S:St):List ResultVar -> Option (List DV)
 | []=>some []
 | r::rs=>match iz P S r with
  | some d=>match Oz P S rs with
   | some ds=>some (d::ds)
   | none=>none
  | none=>none
def JM:List DV -> DV
 | [d]=>d
 | ds=>.tup ds.length fun j=>ds.getD j .any
section
variable {P:Program} {Γ:A6} {N:Nat -> Prop} {S:St} {ρ:List AN} {a:Act} {w:World}
theorem xz {t:TypeId} {k j:Nat} {d:DV} {vc:Prop} (h:Nb P S t (.ref k j)=some (d,vc)):vc:=by
 unfold Nb at h
 repeat' (split at h)
 all_goals first | (cases h;trivial) | (cases h;done) | (simp_all;done)
def Vb (tmps:Array Value):ResultVar -> Sem Value
 | .tmp t=>pure (tmps.getD t undef)
 | .cell x t=>do loadVar t (←asAddr (tmps.getD x undef))
theorem i4 (R:An P Γ N S ρ a w): ∀ (rs:List ResultVar) (ds:List DV),Oz P S rs=some ds -> ∃ vs:List Value,(rs.mapM (Vb a.tmps)).run P w= .ok vs w/\ vs.length=ds.length/\ ∀ i,i<ds.length -> AQ (MS N S.h ρ) w (ds.getD i .any) ρ (vs.getD i undef)
 | [],ds,h=>by
  cases h;exact ⟨[],rfl,rfl,fun i hi=>absurd hi (zBW i)⟩
 | r::rs,ds,h=>by
  simp only [Oz] at h;split at h
  ·rename_i d hd;split at h
   ·rename_i ds' Fl;cases h;obtain ⟨vs,h1,h2,h3⟩:=i4 R rs ds' Fl
    obtain ⟨v,g1,g2⟩: ∃ v,(Vb a.tmps r).run P w= .ok v w/\ AQ (MS N S.h ρ) w d ρ v:=by
     unfold iz at hd;split at hd
     ·cases hd;exact ⟨_,rfl,R.fr.at _⟩
     ·rename_i x t;split at hd
      ·rename_i k j e;split at hd
       ·rename_i d' vc hl;cases hd;have hx:=R.fr.at x;rw [e] at hx;obtain ⟨v,q1,q2⟩:=lj R hx hl (xz hl);obtain ⟨p,hp,hv⟩:=hx;have q:=q1 w (Keep.ofExt (A4.refl w));rw [hv,ZU] at q;refine ⟨v,?_,q2⟩
        show (do loadVar t (←asAddr (a.tmps.getD x undef)):Sem Value).run P w=_
        rw [hv];exact q
       ·cases hd
      ·cases hd
    refine ⟨v::vs,?_,by simp [h2],fun i hi=>?_⟩
    ·rw [List.mapM_cons,zBx,g1];simp only [Result.andThen,zBx,h1,zGN]
    ·cases i with
     | zero=>exact g2
     | succ i=>exact h3 i (by simpa using hi)
   ·cases h
  ·cases h
theorem iy (R:An P Γ N S ρ a w) {fn:Func} {ds:List DV} (h:Oz P S fn.results.toList=some ds): ∃ v,(results fn a.tmps).run P w= .ok v w/\ AQ (MS N S.h ρ) w (JM ds) ρ v:=by
 obtain ⟨vs,h1,h2,h3⟩:=i4 R _ _ h
 have hm:(fn.results.mapM (Vb a.tmps)).run P w= .ok vs.toArray w:=by
  rw [Array.mapM_eq_mapM_toList,←bind_pure_comp,zBx,h1];rfl
 have XE:(results fn a.tmps).run P w= .ok (if h:vs.toArray.size=1 then vs.toArray[0] else .tuple vs.toArray) w:=by
  show (do let vs←fn.results.mapM (Vb a.tmps);pure (if h:vs.size=1 then vs[0] else .tuple vs):Sem Value).run P w=_
  rw [zBx,hm];rfl
 refine ⟨_,XE,?_⟩
 match ds,vs,h2,h3 with
 | [],[],_,_=>exact ⟨#[],rfl,rfl,fun j hj=>absurd hj (zBW j)⟩
 | [d],[v],_,h3=>exact h3 0 (by simp)
 | d::d'::ds,v::v'::vs,h2,h3=>
  have: ¬ ((v::v'::vs).toArray.size=1):=by simp
  rw [dif_neg this];refine ⟨_,rfl,by simpa using h2,fun j hj=>?_⟩;have BI:j<(v::v'::vs).length:=by rw [h2];exact hj
  exact ⟨(v::v'::vs).getD j undef,by simp only [zGh,u8,zBD BI];rfl,h3 j hj⟩
def Sx (h:DH):Prop:=∀ (k:Nat) (encs:List (Array Value)),h[k]? ≠some (some (.iter encs))
theorem An.shut (R:An P Γ N S ρ a w) (hi:Sx S.h) {B:Nat} (hB:Γ.ng<=B) {W:World} (hs:Uf B w W):An P Γ N S ρ a W:=by
 have nc: ∀ {b:Nat},EG w b -> W.heap[b]? =w.heap[b]? :=fun {b} ⟨c,t,z,h⟩=>
  hs.block b (zBG.1 h).1 fun hx=>by rw [h] at hx;cases hx.2;cases t
 have O:Ba (MS N S.h ρ) w ρ (MS N S.h ρ) W ρ:=⟨fun b _ _ ⟨_,_,_,hc⟩=>nc (.cells hc),fun b h=>.inl h,fun _ _ h=>h⟩
 have hr: ∀ {p:AN} {n:Nat} {Rw:Nat -> Value -> Prop},Ag w p n Rw -> W.heap[p.blk]? =w.heap[p.blk]? :=fun {p n Rw} h=>by
  obtain ⟨_,cs,t,h2,_⟩:=h;exact nc (.cells h2)
 refine ⟨⟨R.hr.len,fun k o hk=>?_,fun k o p b h1 h2 h3=>?_,R.hr.dis,fun b hb=>⟨zBY (R.hr.nlt b hb).1 hs.size,(R.hr.nlt b hb).2⟩,Γ.st _ _ R.hr.gi (hs.mono fun i _ hx=>zBO hB hx.1)⟩,R.fr.out O⟩
 ·obtain ⟨p,hp,ho⟩:=R.hr.obj k o hk;refine ⟨p,hp,?_⟩;cases o with
  | cells l=>exact Ag.out ho (hr ho) fun j u _ hu=>AQ.out _ O hu
  | ints l=>exact Ag.out ho (hr ho) fun j u _ hu=>hu
  | bools l=>exact Ag.out ho (hr ho) fun j u _ hu=>hu
  | arr m n f=>exact Ag.out ho (hr ho) fun j u _ hu=>AQ.out _ O.nil hu
  | iter encs=>exact absurd hk (hi k encs)
  | mo x=>exact MY.out ho fun b hb AP=>nc (R.hr.cel k _ p b hk hp hb).2.2
 ·obtain ⟨g1,g2,c,t,z,g3⟩:=R.hr.cel k o p b h1 h2 h3;exact ⟨g1,g2,c,t,z,(nc ⟨c,t,z,g3⟩).trans g3⟩
theorem BL.shut {h0 h:DH} {ρ0 ρ:List AN} {w0 w W:World} (st:BL h0 ρ0 w0 h ρ w) (hs:Uf w0.heap.size w W):BL h0 ρ0 w0 h ρ W:=
 ⟨st.upd.comp hs fun i hi hx=>absurd hx.1 (by omega),st.grow⟩
theorem CG.anys (M:Nat -> Prop) (w:World) (ρ:List AN) (n:Nat):CG M w ρ (List.replicate n .any) (Array.replicate n undef):=
 ⟨by simp,fun i hi=>by
  have:(List.replicate n DV.any).getD i .any= .any:=by
   rw [u8,zE7];split <;> rfl
  rw [this];trivial⟩
def IK (d:DV):Prop:=∀ (M:Nat -> Prop) (w:World) (ρ:List AN) (v:Value),AQ M w d ρ v -> AQ M w d [] v
def zE3 (L:Nat) (S:St) (rs:List DV) (d:DV) (h':DH):Prop:=
 (AS (JM rs) d/\ S.h=h')∨(Sx S.h/\ AS (JM rs) d/\ IK d/\ L<=S.h.length/\ (Fp (List.range L) S).h=h')
def F6 (P:Program) (fn:Func) (L:Nat) (d:DV) (h':DH) (e:Exit) (S':St):Prop:=
 (e= .normal∨e= .ret)/\ ∃ Cn,BR L S' Cn/\ ∃ rs,Oz P Cn fn.results.toList=some rs/\ zE3 L Cn rs d h'
theorem ES.of_tr {f:Nat} {fn:Func} {c:Code} {ds:List DV} {h:DH} {d:DV} {h':DH} {ext:Bool} (hf:P.funcs[f]? =some fn) (hb:fn.body=some c) (Kq:fn.name≠ "runtime.NumGoroutine") (hni:Sx h')
 (H: ∀ (B:Nat) (N:Be P Γ h.length),Tr P Γ Fence.wide (some B) h.length N c ⟨ds++List.replicate (fn.ntmps-ds.length) .any,h⟩ (fun e S Y=>Y=N/\ F6 P fn h.length d h' e S)) (Ju:ext=true -> h= []):ES P Γ f ds h d h' ext:=by
 refine ⟨⟨fn,hf,Kq,by rw [hb];rfl⟩,fun N ρ w args HR CU=>?_⟩;refine zD5 w.heap.size hf hb ?_;have Ak:ds.length=args.size:=CU.1
 have R:An P Γ N ⟨ds++List.replicate (fn.ntmps-ds.length) .any,h⟩ ρ { tmps:=args++Array.replicate (fn.ntmps-args.size) undef,defers:=[] } w:=
  ⟨HR,CG.append CU (by rw [Ak];exact CG.anys _ _ _ _)⟩
 have:=H w.heap.size (Q7 P Γ h.length N h ρ w) N ρ _ w R ⟨rfl,BL.refl _ _ _,Ef.refl _ _⟩ trivial (Bd.wide (zBa _));refine wpIn_wide.1 (zF1 this ?_);rintro e a' w' ⟨S',ρ',N',Y',h1,h2,h3,h4,h5⟩
 have key:Y'=Q7 P Γ h.length N h ρ w -> F6 P fn h.length d h' e S' -> Ee w.heap.size a'.defers w'/\ ∀ W,Uf w.heap.size w' W -> ∃ v,(results fn a'.tmps).run P W= .ok v W/\ ∃ v',Ending.returned v= .returned v'/\ DY P Γ N h ρ w ext d h' v' W:=by
  rintro rfl ⟨_,Cn,BV,rs,XB,hd | ⟨hi,hd,hn,hl,hh⟩⟩
  all_goals
   obtain ⟨e0,h3,h5⟩:=h3;have e0:=e0.symm;subst e0
  ·obtain ⟨hd,rfl⟩:=hd;refine ⟨h4,fun W hW=>?_⟩;obtain ⟨ρ'',GW,Y9,bG⟩:=BV P Γ N ρ' a' w' h2;have RW:=GW.shut hni (Γ.lo _ HR.gi) hW;obtain ⟨v,g1,g2⟩:=iy RW XB;have st:BL h ρ w Cn.h ρ'' W:=(h3.trans Y9).shut hW;refine ⟨v,g1,v,rfl,⟨⟨ρ'',RW.hr,hd _ _ _ _ g2,st,fun k p hp=>?_⟩,fun he=>?_⟩⟩
   ·have hk:k<h.length:=by rw [←HR.len];exact (zBN.1 hp).1
    exact bG k p hk (h5 k p hk hp)
   ·have:=Ju he;subst this;exact st.upd.toExt fun i _ ⟨k,o,p,q1,_⟩=>by simp at q1
  ·refine ⟨h4,fun W hW=>?_⟩;obtain ⟨ρ'',GW,Y9,bG⟩:=BV P Γ N ρ' a' w' h2;have RW:=GW.shut hi (Γ.lo _ HR.gi) hW;obtain ⟨v,g1,g2⟩:=iy RW XB;have st:BL h ρ w Cn.h ρ'' W:=(h3.trans Y9).shut hW;obtain ⟨ρ3,R3,Oj,k3⟩:=BR.compact (L:=h.length) (List.range h.length) Cn List.nodup_range (fun k hk=>zBY (zBc.1 hk) hl) (fun k hk=>by simp [hk]) P Γ N ρ'' a' W RW;rw [hh] at Oj;have qK:=R3.hr;rw [hh] at qK;refine ⟨v,g1,v,rfl,⟨⟨ρ3,qK,?_,st.trans Oj,fun k p hp=>?_⟩,fun he=>?_⟩⟩
   ·have r0:=hn _ _ _ _ (hd _ _ _ _ g2);have r1:AQ (MS N h' ρ3) W d [] v:=AQ.out _ ⟨fun _ _ _ _=>rfl,fun b hb=>hb.elim (fun hx=>.inl (.inl hx)) fun hx=>(Oj.grow b hx).imp .inr id,fun _ _ hx=>by simp at hx⟩ r0;exact AQ.out _ ⟨fun _ _ _ _=>rfl,fun b hb=>.inl hb,fun _ _ hx=>by simp at hx⟩ r1
   ·have hk:k<h.length:=by rw [←HR.len];exact (zBN.1 hp).1
    exact k3 k p hk (bG k p hk (h5 k p hk hp))
   ·have:=Ju he;subst this;exact (st.trans Oj).upd.toExt fun i _ ⟨k,o,p,q1,_⟩=>by simp at q1
 cases e with
 | normal=>exact key h1.1 h1.2
 | ret=>exact key h1.1 h1.2
 | exit id=>exact absurd h1.2.1 (by simp)
 | goto t=>exact absurd h1.2.1 (by simp)
 | panic ch=>exact h1.elim
 | outgrown=>exact h1.elim
def Gx (d:DV):Prop:=∀ (M M':Nat -> Prop) (w w':World) (ρ ρ':List AN) (v:Value),AQ M w d ρ v -> AQ M' w' d ρ' v
theorem IK.agg {m:Nat} {f:Nat -> DV} (h: ∀ j,j<m -> IK (f j)):IK (.agg m f):=fun M w ρ _ ⟨cs,e,hs,hc⟩=>⟨cs,e,hs,fun j hj=>let ⟨u,h1,h2⟩:=hc j hj;⟨u,h1,h j hj M w ρ u h2⟩⟩
theorem IK.tup {m:Nat} {f:Nat -> DV} (h: ∀ j,j<m -> IK (f j)):IK (.tup m f):=fun M w ρ _ ⟨cs,e,hs,hc⟩=>⟨cs,e,hs,fun j hj=>let ⟨u,h1,h2⟩:=hc j hj;⟨u,h1,h j hj M w ρ u h2⟩⟩
theorem Gx.int (k:IntKind) (n:Int):Gx (.int k n):=fun _ _ _ _ _ _ _ h=>h
theorem Gx.bool (b:Bool):Gx (.bool b):=fun _ _ _ _ _ _ _ h=>h
theorem Gx.tup {m:Nat} {f:Nat -> DV} (h: ∀ j,j<m -> Gx (f j)):Gx (.tup m f):=fun M M' w w' ρ ρ' _ ⟨cs,e,hs,hc⟩=>⟨cs,e,hs,fun j hj=>let ⟨u,h1,h2⟩:=hc j hj;⟨u,h1,h j hj M M' w w' ρ ρ' u h2⟩⟩
theorem Po {M:Nat -> Prop} (hM: ∀ b,M b -> b<w.heap.size/\ Γ.ng<=b) (hg:Γ.gi w):BX P Γ M [] [] w:=
 ⟨rfl,fun k o hk=>by simp at hk,fun k o p b h1=>by simp at h1,fun k k' o o' p p' b _ h1=>by simp at h1,hM,hg⟩
theorem Od {M:Nat -> Prop} {b:Nat}:MS M [] [] b↔M b:=⟨fun h=>h.elim id fun ⟨k,o,p,h1,_⟩=>by simp at h1,.inl⟩
theorem ES.frame {f:Nat} {ds:List DV} {d:DV} (h0:ES P Γ f ds [] d [] true) (Fl: ∀ x∈ds,IK x) (h:DH):ES P Γ f ds h d h true:=by
 refine ⟨h0.1,fun N ρ w args HR CU=>?_⟩;refine (h0.2 (MS N h ρ) [] w args (Po (fun b hb=>HR.lt2 hb) HR.gi) ⟨CU.1,fun i hi=>?_⟩).mono ?_
 ·have hx:=Fl (ds.getD i .any) (by simp [hi]);exact AQ.out _ (DR (fun b hb=>Od.1 hb) []) (hx _ _ _ _ (CU.2 i hi))
 ·rintro e w' ⟨v,rfl,⟨⟨ρ',g1,g2,g3,g4⟩,g5⟩⟩;have hE:=g5 rfl;have hρ:ρ'= []:=zE5 (by rw [g1.len];rfl);subst hρ;exact ⟨v,rfl,⟨⟨ρ,HR.ext hE,O0 (AQ.out _ (DR (fun b hb=>Od.2 hb) []) g2),BL.ext hE,fun _ _ h=>h⟩,g5⟩⟩
def Ar (h:DH) (d d0:DV):Prop:=∀ (P:Program) (Γ:A6) (N:Nat -> Prop) (ρ:List AN) (w:World) (v:Value),BX P Γ N h ρ w -> AQ (MS N h ρ) w d ρ v -> AQ (fun _=>False) w d0 [] v
theorem Ar.nref {h:DH} {d:DV} (hn:IK d):Ar h d d:=fun _ _ _ _ _ _ _ hr=>AQ.out _ (DR (fun _ hb=>hb.elim) []) (hn _ _ _ _ hr)
theorem Ar.ints {h:DH} {k n:Nat} {l:List Int} (hk:h[k]? =some (some (.ints l))) (hn:n=l.length):Ar h (.msl k 1 0 n) (.ints l):=by
 rintro P Γ N ρ w v H ⟨p,cap,hp,e,g1,g2,_⟩;subst hn;obtain ⟨p',BE,hr⟩:=H.obj k _ hk;have ep:p'=p:=zBK (BE.symm.trans hp);subst ep;refine ⟨_,cap,e,g1,g2,fun j hj=>⟨p'.blk,p'.off,by simp,id,?_⟩⟩;obtain ⟨u,e1,e2⟩:=Ag.cell hr hj;rw [e1,e2]
theorem Ar.bools {h:DH} {k n:Nat} {l:List Bool} (hk:h[k]? =some (some (.bools l))) (hn:n=l.length):Ar h (.msl k 1 0 n) (.bools l):=by
 rintro P Γ N ρ w v H ⟨p,cap,hp,e,g1,g2,_⟩;subst hn;obtain ⟨p',BE,hr⟩:=H.obj k _ hk;have ep:p'=p:=zBK (BE.symm.trans hp);subst ep;refine ⟨_,cap,e,g1,g2,fun j hj=>⟨p'.blk,p'.off,by simp,id,?_⟩⟩;obtain ⟨u,e1,e2⟩:=Ag.cell hr hj;rw [e1,e2]
theorem Ar.ref {h:DH} {k m:Nat} {l:List DV} {f:Nat -> DV} (hk:h[k]? =some (some (.cells l))) (hm:m<=l.length) (hf: ∀ j,j<m -> Ar h (l.getD j .any) (f j)):Ar h (.ref k 0) (.fp m f):=by
 rintro P Γ N ρ w v H ⟨p,hp,e⟩;obtain ⟨p',BE,hr⟩:=H.obj k _ hk;have ep:p'=p:=zBK (BE.symm.trans hp);subst ep;refine ⟨p'.blk,p'.off,e,fun j hj=>⟨id,?_⟩⟩;obtain ⟨u,e1,e2⟩:=Ag.cell hr (j:=j) (by omega);exact ⟨u,e1,hf j hj P Γ N ρ w u H e2⟩
theorem ES.snap {f:Nat} {ds Dk:List DV} {d:DV} (h0:ES P Γ f Dk [] d [] true) (h:DH) (hl:Dk.length=ds.length) (hs: ∀ i,i<ds.length -> Ar h (ds.getD i .any) (Dk.getD i .any)) (hd:Gx d):ES P Γ f ds h d h true:=by
 refine ⟨h0.1,fun N ρ w args HR CU=>?_⟩;refine (h0.2 (fun _=>False) [] w args (Po (fun b hb=>hb.elim) HR.gi) ⟨by rw [hl];exact CU.1,fun i hi=>?_⟩).mono ?_
 ·rw [hl] at hi;exact AQ.out _ (DR (fun b hb=>Od.1 hb) []) (hs i hi P Γ N ρ w _ HR (CU.2 i hi))
 ·rintro e w' ⟨v,rfl,⟨⟨ρ',g1,g2,g3,g4⟩,g5⟩⟩;have hE:=g5 rfl;exact ⟨v,rfl,⟨⟨ρ,HR.ext hE,hd _ _ _ _ _ _ _ g2,BL.ext hE,fun _ _ h=>h⟩,g5⟩⟩
end
end Go.Proofs.YtekkngkphejfcaaGreatDoor
namespace Go.Proofs.YtekkngkphejfcaaGreatDoor
open Go.RowKit
section
variable {F:Fence} {n:Nat} {P:Program} {ops:Array Oper} {Q:Exit -> Act -> World -> Prop}
def Hg (F:Fence) (n:Nat) (P:Program) (ops:Array Oper) (Q:Exit -> Act -> World -> Prop) (R:Nat -> World -> World -> Prop):Nat -> Array Bool -> Act -> World -> Prop
 | 0,Ac,a,w=>(∀ j,j<ops.size -> Ac.getD j true=true)/\ Q .normal a w
 | m+1,Ac,a,w=>Region.ready .any ops Ac≠[]/\ ∀ i∈Region.ready .any ops Ac,wpOpIn F n P ops (NP Q) i (fun a' w'=>R i w w'/\ Hg F n P ops Q R m (Ac.setIfInBounds i true) a' w') a w
theorem fD {R R':Nat -> World -> World -> Prop} (hR: ∀ i w w',R' i w w' -> R i w w'): ∀ (m:Nat) (Ac:Array Bool) (a:Act) (w:World),Hg F n P ops Q R' m Ac a w -> Hg F n P ops Q R m Ac a w
 | 0,_,_,_,h=>h
 | m+1,_,_,_,h=>⟨h.1,fun i hi=>zGD (fun _ _ h'=>⟨hR _ _ _ h'.1,fD hR m _ _ _ h'.2⟩) (h.2 i hi)⟩
theorem ud {Ac:Array Bool} (h: ∀ j,j<ops.size -> Ac.getD j true=true):Region.ready .any ops Ac= []:=by
 cases hr:Region.ready .any ops Ac with
 | nil=>rfl
 | cons i l=>
  have hi:i∈Region.ready .any ops Ac:=by rw [hr];simp
  obtain ⟨h1,oi,h2,_⟩:=zGI.1 hi;rw [h i (zBG.1 h2).1] at h1;cases h1
theorem fJ {R:Nat -> World -> World -> Prop}: ∀ (m:Nat) (Ac:Array Bool) (a:Act) (w:World),Hg F n P ops Q R m Ac a w -> wpAnyIn F n P .any ops Q m Ac a w
 | 0,_,_,_,h=>⟨ud h.1,h.2⟩
 | m+1,_,_,_,h=>⟨fun h0=>absurd h0 h.1,fun i hi=>zGD (fun a' w' h'=>fJ m _ a' w' h'.2) (fF (h.2 i hi))⟩
theorem qQ (hF: ∀ f,F.fn f) (Av:EV ops=true) {R:Nat -> World -> World -> Prop} {T:World -> Prop} {i:Nat} {oi:Oper} {v:Value} (hi:ops[i]? =some oi) (TM: ∀ (j:Nat) (o:Oper) cs b,ops[j]? =some o -> o.op≠.select cs b) (nh: ∀ w,R i w w):
 ∀ (m:Nat) (Ac:Array Bool) (a:Act) (w:World),GX ops Ac ->
  (∀ j oj,ops[j]? =some oj -> j≠i -> Ac.getD j true=false -> (∀ e∈oj.after,Region.binds .any e=true -> e.on≠i) -> oi.apart ops oj=true) ->
  (∀ j,j<ops.size -> j≠i -> Ac.getD j true=false -> F9 ops ops.size j i=false -> ∀ w w',T w -> R j w w' -> T w') ->
  i∈Region.ready .any ops Ac -> YieldsIf P ops T oi v a -> T w ->
  Hg F n P ops Q R m (Ac.setIfInBounds i true) (a.put oi.dst v) w -> Hg F n P ops Q R (m+1) Ac a w:=by
 intro m
 induction m with
 | zero=>
  intro Ac a w BU _ _ hr hy hS H;have N6:=(zGI.1 hr).1;refine ⟨fun h=>(by rw [h] at hr;cases hr),fun j hj=>?_⟩
  by_cases En:j=i
  ·subst En;exact Ul hF (Ii Av hi) hi hy hS ⟨nh w,H⟩
  ·exfalso
   obtain ⟨Js,oj,Fy,IA⟩:=zGI.1 hj;have Pz:=(zBG.1 Fy).1;have:=H.1 j Pz;rw [getD_set_ne true (zGK En),Js] at this;cases this
 | succ m ih=>
  intro Ac a w BU TZ hT hr hy hS H;have N6:=(zGI.1 hr).1;refine ⟨fun h=>(by rw [h] at hr;cases hr),fun j hj=>?_⟩
  by_cases En:j=i
  ·subst En;exact Ul hF (Ii Av hi) hi hy hS ⟨nh w,H⟩
  ·have h1:=H.2 j (ready_mono hj En);obtain ⟨Js,oj,Fy,IA⟩:=zGI.1 hj;have Pz:=(zBG.1 Fy).1
   have hnw:F9 ops ops.size j i=false:=by
    cases hx:F9 ops ops.size j i with
    | false=>rfl
    | true=>
     have:=Yo BU _ j i oj Fy IA hx;rw [Xd N6] at this;cases this
   have cR: ∀ e∈oj.after,Region.binds .any e=true -> e.on≠i:=fun e he hb P0=>by
    have h1:=IA e he hb;rw [P0,Xd N6] at h1;cases h1
   have h2:=fE hF (Ii Av Fy) Fy (TZ j oj Fy En Js cR) (fun cs b=>TM i oi cs b hi) (fun cs b=>TM j oj cs b Fy) (fun c a w h=>NP.put c a _ _ w h) hy h1
   have un: ∀ {k:Nat},(Ac.setIfInBounds j true).getD k true=false -> Ac.getD k true=false:=fun {k} Io=>by
    by_cases TV:j=k
    ·subst TV;exact Js
    ·rw [getD_set_ne true TV] at Io;exact Io
   refine zGD (fun a' w' h3=>⟨h3.2.1,ih (Ac.setIfInBounds j true) a' w' (BU.set hj) (fun k ok hk TT Io Ir=>TZ k ok hk TT (un Io) Ir) (fun k Em TT Io hkw=>hT k Em TT (un Io) hkw) (ready_mono hr (zGK En)) h3.1 (hT j Pz En Js hnw w w' hS h3.2.1) ?_⟩) h2;rw [Array.setIfInBounds_comm _ _ En];exact h3.2.2
theorem qT {id:Nat} {a:Act} {w:World} {R:Nat -> World -> World -> Prop} (hm:P.follows .mixedOrders=true) (h:Hg F n P ops Q R ops.size (Array.replicate ops.size false) a w.drew):(Code.region id ops true).wpIn F n P Q a w:=
 wpIn_region_any hm (fJ _ _ _ _ h)
theorem zDv:GX ops (Array.replicate ops.size false):=fun j oj _ hl=>by
 exfalso
 rcases zFQ j ops.size with h | h
 ·simp [h] at hl
 ·simp [h] at hl
def Sf (ops:Array Oper) (i:Nat):Bool:=match ops[i]? with
 | some o=>Se o.op
 | none=>false
def RZ (ops:Array Oper) (early:Nat -> Bool) (Z:Nat -> Nat -> Prop) (j:Nat) (w w':World):Prop:=(Sf ops j=true -> w'=w)/\ (early j=true -> AV (Z j) w w')
def Ve (ops:Array Oper) (early:Nat -> Bool) (i:Nat) (Ac:Array Bool):Bool:=
 (Region.ready .any ops Ac).contains i&&Region.free .any ops Ac i&&Sf ops i&&
  ((List.range ops.size).all fun j=>Ac.getD j true||j==i||Sf ops j||early j||F9 ops ops.size j i)
theorem i6 (hF: ∀ f,F.fn f) (Av:EV ops=true) (hs:Region.noSelect ops=true) {early:Nat -> Bool} {Z:Nat -> Nat -> Prop} {Zi:Nat -> Prop} {i m:Nat} {Ac:Array Bool} {a:Act} {w:World} {oi:Oper} {v:Value} (hi:ops[i]? =some oi) (BU:GX ops Ac) (B6:Ve ops early i Ac=true) (hZ: ∀ j,F9 ops ops.size j i=false -> ∀ b,Z j b -> Zi b)
 (hy:YieldsIf P ops (AV Zi w) oi v a) (h:Hg F n P ops Q (RZ ops early Z) m (Ac.setIfInBounds i true) (a.put oi.dst v) w):Hg F n P ops Q (RZ ops early Z) (m+1) Ac a w:=by
 simp only [Ve,zBE,zBT,zBc,zBg,zBf] at B6;obtain ⟨⟨⟨h1,h2⟩,h3⟩,h4⟩:=B6;refine qQ hF Av hi (Region.noSelect_spec hs) (fun w=>⟨fun _=>rfl,fun _=>AV.refl _ _⟩) m Ac a w BU (Region.free_spec hi h2) (fun j hj En Io hw w1 w2 hT hR=>?_) (by simpa using h1) hy (AV.refl _ _) h;rcases h4 j hj with (((h | h) | h) | h) | h
 ·rw [Io] at h;cases h
 ·exact absurd h En
 ·rw [hR.1 h];exact hT
 ·exact hT.trans ((hR.2 h).mono fun b _ hb=>hZ j hw b hb)
 ·rw [hw] at h;cases h
theorem dk {Ac:Array Bool} {i:Nat} (BU:GX ops Ac) (h:(Region.ready .any ops Ac).contains i=true):GX ops (Ac.setIfInBounds i true):=BU.set (by simpa using h)
end
end Go.Proofs.YtekkngkphejfcaaGreatDoor
namespace Go.Proofs.YtekkngkphejfcaaGreatDoor
abbrev zFU:=@List.mem_filter
end Go.Proofs.YtekkngkphejfcaaGreatDoor
namespace Go.Proofs.YtekkngkphejfcaaGreatDoor
open Go.RowKit
inductive ST where
 | fin (π live:List Nat)
 | rd (i:Nat) (t:ST)
 | ef (i:Nat) (t HV:ST)
 | no
def UZ:ST -> List Nat
 | .ef i _ HV=>i::UZ HV
 | _=>[]
def D1 (ops:Array Oper) (early:List Nat):Bool -> Nat -> ST -> Array Bool -> Bool
 | false,0,.fin _ _,L=>(List.range ops.size).all fun j=>L.getD j true
 | false,m+1,.rd i t,L=>Ve ops (fun j=>early.contains j) i L&&D1 ops early false m t (L.setIfInBounds i true)
 | b,m+1,.ef i t HV,L=>(b||Region.ready .any ops L==UZ (.ef i .no HV))&&!Sf ops i&&D1 ops early false m t (L.setIfInBounds i true)&&D1 ops early true (m+1) HV L
 | true,_,.no,_=>true
 | _,_,_,_=>false
def Hk (p:Nat -> Bool) (h:DH):DH:=(List.range h.length).map fun i=>if p i then h.getD i none else none
def yX (xs:List Nat) (h:DH):DH:=Hk (fun i=>!xs.contains i) h
def YV (xs:List Nat) (h:DH):Bool:=xs.all fun k=>decide (h.length<=k)||(h.getD k none).isSome
def yd (h h':DH):Bool:=(List.range h.length).all fun k=>!(h.getD k none).isSome||(h'.getD k none).isSome
def Mh (S:St) (o:Oper):Option Nat:=match o.op with
 | .store _ x _=>match Ao S.fr x with
  | .ref k _=>some k
  | .mp k _ _ _=>some k
  | _=>none
 | _=>none
def gx (σ:List Nat) (L n:Nat):Bool:=decide σ.Nodup&&σ.all (fun k=>decide (k<n))&&(List.range L).all fun k=>decide (σ[k]? =some k)
def Qo (xs:List (Nat×Nat)) (nw:List Nat):List Nat:=xs.map (·.2)++nw
def JK (xs:List (Nat×Nat)) (nw:List Nat) (j:Nat):List Nat:=(xs.filter fun q=>q.1==j).map (·.2)++nw
def J6 (ops:Array Oper) (xs:List (Nat×Nat)) (nw:List Nat) (i:Nat):List Nat:=(xs.filter fun q=>!F9 ops ops.size q.1 i).map (·.2)++nw
def oh (early:List Nat) (xs:List (Nat×Nat)) (nw:List Nat) (S S1:St) (i:Nat) (o:Oper) (ext:Bool):Bool:=
 YV (Qo xs nw) S.h&&YV (Qo xs nw) S1.h&&((Qo xs nw).all (fun k=>decide (k<S.h.length))||yd S.h S1.h)&&(!(early.contains i)||ext||(match Mh S o with | some k=>(JK xs nw i).contains k | none=>false))
def U9 (π:List Nat) (L0:Nat):List Nat:=List.range L0++π.map (· +L0)
def LH (P:Program) (Γ:A6) (ops:Array Oper) (early:List Nat) (xs:List (Nat×Nat)) (nw:List Nat) (L0:Nat) (S':St):ST -> St -> B8 -> Option (List Prop×B8)
 | .no,_,A0=>some ([],A0)
 | .fin π live,S,A0=>if gx (U9 π L0) L0 S.h.length then some ([Fp (U9 π L0) ⟨forget live S.fr,S.h⟩=S'],A0) else none
 | .rd i t,S,A0=>match ops[i]? with
  | none=>none
  | some o=>if YV (J6 ops xs nw i) S.h then match SU P ops ⟨S.fr,yX (J6 ops xs nw i) S.h⟩ A0.co o with
   | none=>none
   | some (S1,vs,Dy)=>match LH P Γ ops early xs nw L0 S' t ⟨S1.fr,S.h⟩ ⟨A0.calls,Dy,A0.fz,A0.tg⟩ with
    | none=>none
    | some (Bz,Cd)=>some (vs++Bz,Cd)
   else none
 | .ef i t HV,S,A0=>match ops[i]? with
  | none=>none
  | some o=>match OU P Γ ops S A0 o with
   | none=>none
   | some (S1,vs,ext,NO)=>if oh early xs nw S S1 i o ext then
    match LH P Γ ops early xs nw L0 S' t S1 NO with
    | none=>none
    | some (C1,Hu)=>match LH P Γ ops early xs nw L0 S' HV S Hu with
     | none=>none
     | some (FW,PM)=>some (vs++(C1++FW),PM)
    else none
def CN (ops:Array Oper) (early:List Nat) (t:ST):Prop:=(D1 ops early false ops.size t (Array.replicate ops.size false)&&Region.noSelect ops&&EV ops)=true
def Yw (P:Program) (Γ:A6) (ops:Array Oper) (early:List Nat) (t:ST) (S:St) (A0:B8):Option (St×List Prop×B8):=match A0.tg with
 | []=>none
 | (ks,S')::rest=>match LH P Γ ops early ks (List.range' S.h.length ops.size) S.h.length S' t S ⟨A0.calls,A0.co,A0.fz,rest⟩ with
  | none=>none
  | some (vs,Cd)=>some (S',vs,Cd)
theorem QC {p:Nat -> Bool} {h:DH} {i:Nat} {o:DO} (hi:(Hk p h)[i]? =some (some o)):h[i]? =some (some o)/\ p i=true:=by
 unfold Hk at hi;rw [zBn] at hi;cases hr:(List.range h.length)[i]? with
 | none=>rw [hr] at hi;cases hi
 | some j=>
  have hj:i<h.length/\ i=j:=by
   have:=zBN.1 hr;obtain ⟨h1,h2⟩:=this;simp at h1 h2;exact ⟨h1,h2⟩
  rw [hr] at hi;obtain ⟨h1,rfl⟩:=hj;have hi:(if p i then h.getD i none else none)=some o:=zBK hi;split at hi
  ·exact ⟨by rw [u8,zBD h1] at hi;rw [zBD h1];exact congrArg some hi,by assumption⟩
  ·cases hi
theorem re {p:Nat -> Bool} {h:DH}:(Hk p h).length=h.length:=by simp [Hk]
theorem n0 {p:Nat -> Bool} {h:DH} {k:Nat} (hp:p k=true) (hk:k<h.length):(Hk p h)[k]? =h[k]? :=by
 unfold Hk;rw [zBn,zFr hk];simp [hp,u8,hk]
section
variable {P:Program} {Γ:A6} {N:Nat -> Prop} {S:St} {ρ:List AN} {a:Act} {w:World}
theorem An.sel (R:An P Γ N S ρ a w) (p:Nat -> Bool):An P Γ (fun b=>N b∨∃ k o q,p k=false/\ S.h[k]? =some (some o)/\ ρ[k]? =some q/\ q.foot b) ⟨S.fr,Hk p S.h⟩ ρ a w:=by
 have hM: ∀ b,MS (fun b=>N b∨∃ k o q,p k=false/\ S.h[k]? =some (some o)/\ ρ[k]? =some q/\ q.foot b) (Hk p S.h) ρ b -> MS N S.h ρ b:=by
  rintro b ((h | ⟨k,o,q,h1,h2,h3,h4⟩) | ⟨k,o,q,h1,h2,h3⟩)
  ·exact .inl h
  ·exact .inr ⟨k,o,q,h2,h3,h4⟩
  ·exact .inr ⟨k,o,q,(QC h1).1,h2,h3⟩
 refine ⟨⟨by rw [re];exact R.hr.len,fun i o hi=>?_,fun i o q b g1 g2 g3=>?_,fun i i' o1 o2 p1 p2 b AY g1 g2 g3 g4 g5 g6=>R.hr.dis i i' o1 o2 p1 p2 b AY (QC g1).1 (QC g2).1 g3 g4 g5 g6,?_,R.hr.gi⟩,R.fr.out (DR hM ρ)⟩
 ·obtain ⟨q,hq,hr⟩:=R.hr.obj i o (QC hi).1;exact ⟨q,hq,hr.out (DR hM ρ) (S:=fun _=>False) (AV.refl _ _) (fun _ h=>h.elim) fun _ _ _ h=>h⟩
 ·obtain ⟨hi,hpi⟩:=QC g1;obtain ⟨c1,c2,c3⟩:=R.hr.cel i o q b hi g2 g3;refine ⟨c1,?_,c3⟩;rintro (h | ⟨k,o',q',h1,h2,h3,h4⟩)
  ·exact c2 h
  ·exact R.hr.dis i k o o' q q' b (fun e=>by subst e;rw [hpi] at h1;cases h1) hi h2 g2 h3 g3 h4
 ·rintro b (h | ⟨k,o',q',h1,h2,h3,h4⟩)
  ·exact R.hr.nlt b h
  ·obtain ⟨c1,_,c,t,z,c3⟩:=R.hr.cel k o' q' b h2 h3 h4;exact ⟨(zBG.1 c3).1,c1⟩
theorem An.unsel {p:Nat -> Bool} {fr:List DV} (R0:BX P Γ N S.h ρ w) (R:CG (MS (fun b=>N b∨∃ k o q,p k=false/\ S.h[k]? =some (some o)/\ ρ[k]? =some q/\ q.foot b) (Hk p S.h) ρ) w ρ fr a.tmps):An P Γ N ⟨fr,S.h⟩ ρ a w:=by
 refine ⟨R0,R.out (DR (fun b hb=>?_) ρ)⟩;rcases hb with h | ⟨k,o,q,h1,h2,h3⟩
 ·exact .inl (.inl h)
 ·cases hp:p k with
  | false=>exact .inl (.inr ⟨k,o,q,hp,h1,h2,h3⟩)
  | true=>
   refine .inr ⟨k,o,q,?_,h2,h3⟩;rw [n0 hp (zBN.1 h1).1];exact h1
def Zs (xs:List Nat) (ρ:List AN) (w:World) (b:Nat):Prop:=(∃ k q,k∈xs/\ ρ[k]? =some q/\ q.foot b)∨w.heap.size<=b
theorem ye {xs:List Nat} (R:BX P Γ N S.h ρ w) (Kt:YV xs S.h=true) {W:World} (hu:AV (Zs xs ρ w) w W):Keep (fun b=>N b∨∃ k o q,(!xs.contains k)=false/\ S.h[k]? =some (some o)/\ ρ[k]? =some q/\ q.foot b) w W:=by
 intro b o u hb hc;have AP:b<w.heap.size:=zFS w ⟨b,o,none⟩ hc;refine (pL (hu.block b AP ?_)).trans hc;rintro (⟨k,q,h1,h2,h3⟩ | h)
 ·have hk:k<S.h.length:=by rw [←R.len];exact (zBN.1 h2).1
  have hx:=zBT.1 Kt k h1;simp only [zBg,zCK] at hx;rcases hx with hx | hx
  ·omega
  ·cases hg:S.h.getD k none with
   | none=>rw [hg] at hx;cases hx
   | some ob=>exact hb (.inr ⟨k,ob,q,by simp [h1],getD_some hg,h2,h3⟩)
 ·omega
theorem QM {ρ':Operand -> Value} {o:Oper} {t:TypeId} {x y:Operand} (ho:o.op= .store t x y) {nx:Next} {w w':World} (h:(execOp ρ' o).run P w= .ok nx w'):nx= .skip:=by
 unfold execOp at h;rw [ho] at h;have h:(Instr.storeAt t (ρ' x) (ρ' y)>>=fun _=>(pure .skip:Sem Next)).run P w= .ok nx w':=h;rw [zBx] at h;cases hs:(Instr.storeAt t (ρ' x) (ρ' y)).run P w with
 | ok v w1=>rw [hs] at h;simp only [Result.andThen] at h;cases h;rfl
 | halt x w1=>rw [hs] at h;simp only [Result.andThen] at h;cases h
theorem Bb.store {ρ':Operand -> Value} {o:Oper} {t:TypeId} {x y:Operand} (ho:o.op= .store t x y) {w:World} {G G':Value -> World -> Prop} (h:Bb P (execOp ρ' o) w G) (h':Bb P (execOp ρ' o) w G'):Bb P (execOp ρ' o) w (fun v W=>G v W/\ G' v W):=by
 rcases h with ⟨v,w1,h1,_⟩ | ⟨w1,h1,h2⟩ | ⟨f,ag,w1,h1,_⟩
 ·cases QM ho h1
 ·rcases h' with ⟨v,w2,g1,_⟩ | ⟨w2,g1,g2⟩ | ⟨f,ag,w2,g1,_⟩
  ·cases QM ho g1
  ·rw [h1] at g1;cases g1;exact .inr (.inl ⟨w1,h1,h2,g2⟩)
  ·cases QM ho g1
 ·cases QM ho h1
theorem rM {t:TypeId} {x d:DV} {k:Nat} {h':DH} {vc:Prop} (hx:(∃ j,x= .ref k j)∨∃ m i j,x= .mp k m i j) (h:Mi P S t x d=some (h',vc)):k<S.h.length/\ ∃ h2,Mi P ⟨S.fr,Hk (fun i=>i==k) S.h⟩ t x d=some (h2,vc):=by
 have key: ∀ {o:DO},S.h[k]? =some (some o) -> k<S.h.length/\ (Hk (fun i=>i==k) S.h)[k]? =some (some o):=fun {o} ho=>by
  have hk:=(zBN.1 ho).1;exact ⟨hk,by rw [n0 (by simp) hk];exact ho⟩
 unfold Mi at h ⊢;rcases hx with ⟨j,rfl⟩ | ⟨m,i,j,rfl⟩
 ·simp only at h ⊢;split at h
  ·rename_i l hl;obtain ⟨h1,h2⟩:=key hl;refine ⟨h1,?_⟩;simp only [h2]
   repeat' (split at h)
   all_goals first | (cases h;done) | skip
   cases h;rename_i q1 q2 q3;simp only [q1,q2,q3,zDH];exact ⟨_,rfl⟩
  ·cases h
 ·simp only at h ⊢;split at h
  ·rename_i A9;split at h
   ·rename_i l hl;obtain ⟨h1,h2⟩:=key hl;refine ⟨h1,?_⟩;simp only [h2,A9,zDH]
    repeat' (split at h)
    all_goals first | (cases h;done) | skip
    cases h;rename_i q1;simp only [q1,zDH];exact ⟨_,rfl⟩
   ·rename_i l hl;obtain ⟨h1,h2⟩:=key hl;refine ⟨h1,?_⟩;simp only [h2,A9,zDH]
    repeat' (split at h)
    all_goals first | (cases h;done) | skip
    cases h;rename_i q1;simp only [q1,zDH];exact ⟨_,rfl⟩
   ·rename_i m' n f hl;obtain ⟨h1,h2⟩:=key hl;refine ⟨h1,?_⟩;simp only [h2,A9,zDH]
    repeat' (split at h)
    all_goals first | (cases h;done) | skip
    cases h;rename_i q1;simp only [q1,zDH];exact ⟨_,rfl⟩
   ·cases h
  ·cases h
theorem gW {o:Oper} {k:Nat} (h:Mh S o=some k): ∃ t x y,o.op= .store t x y/\ ((∃ j,Ao S.fr x= .ref k j)∨∃ m i j,Ao S.fr x= .mp k m i j):=by
 unfold Mh at h;split at h
 ·rename_i t x y ho;refine ⟨t,x,y,ho,?_⟩;split at h
  ·rename_i j e;cases h;exact .inl ⟨j,e⟩
  ·rename_i m i j e;cases h;exact .inr ⟨m,i,j,e⟩
  ·cases h
 ·cases h
theorem zEx {calls:List (DV×DH×Bool)} {o:Oper} {t:TypeId} {x y:Operand} (ho:o.op= .store t x y) {d:DV} {h':DH} {vs:List Prop} {ext:Bool} {UI:List (DV×DH×Bool)} (h:Qh P Γ S calls o.op=some (d,h',vs,ext,UI)): ∃ vc,Mi P S t (Ao S.fr x) (Ao S.fr y)=some (h',vc)/\ vs= [vc]:=by
 rw [ho] at h;simp only [Qh] at h;split at h
 ·rename_i h1 vc hs;cases h;exact ⟨vc,hs,rfl⟩
 ·cases h
theorem zEy (R:An P Γ N S ρ a w) {calls:List (DV×DH×Bool)} {o:Oper} {d:DV} {h':DH} {vs:List Prop} {ext:Bool} {UI:List (DV×DH×Bool)} (h:Qh P Γ S calls o.op=some (d,h',vs,ext,UI)) (hv:Bo vs):
 Bb P (execOp a.eval o) w (fun v w'=>DY P Γ N S.h ρ w ext d h' v w'/\ ∀ k,Mh S o=some k -> AV (fun b=>∃ q,ρ[k]? =some q/\ q.foot b) w w'):=by
 cases E5:Mh S o with
 | none=>
  have D:=eN R h hv;rcases D with ⟨v,w1,h1,h2⟩ | ⟨w1,h1,h2⟩ | ⟨f,ag,w1,h1,h2⟩
  ·exact .inl ⟨v,w1,h1,h2,fun k hk=>by cases hk⟩
  ·exact .inr (.inl ⟨w1,h1,h2,fun k hk=>by cases hk⟩)
  ·exact .inr (.inr ⟨f,ag,w1,h1,h2.mono fun e CX ⟨v,e1,e2⟩=>⟨v,e1,e2,fun k hk=>by cases hk⟩⟩)
 | some k=>
  obtain ⟨t,x,y,ho,hx⟩:=gW E5;have D:=eN R h hv;obtain ⟨vc,hs,rfl⟩:=zEx ho h;obtain ⟨_,h2,Lv⟩:=rM hx hs;have D2:=gY (An.sel R (fun i=>i==k)) (tx:=x) (x:=y) Lv hv.1 o ho;have D3:=Bb.store ho D D2;rcases D3 with ⟨v,w1,h1,g1,g2⟩ | ⟨w1,h1,g1,g2⟩ | ⟨f,ag,w1,h1,_⟩
  ·cases QM ho h1
  ·refine .inr (.inl ⟨w1,h1,g1,fun k' Di=>?_⟩);cases Di;obtain ⟨ρ2,_,_,st,_⟩:=g2.ex;refine st.upd.mono fun b _ hb=>?_
   obtain ⟨i,o',q,q1,q2,q3⟩:=hb;have:=(QC q1).2;have e:i=k:=by simpa using this
   subst e;exact ⟨q,q2,q3⟩
  ·cases QM ho h1
theorem zEV {F:Fence} (hF:EI F P) (R:An P Γ N S ρ a w) {ops:Array Oper} {A0:B8} {o:Oper} (hd: ∀ c,o.op≠.defer c) {S':St} {vs:List Prop} {ext:Bool} {Cd:B8} (h:OU P Γ ops S A0 o=some (S',vs,ext,Cd)) (hv:Bo vs)
 {K:Act -> World -> Prop} {Q:Exit -> Act -> World -> Prop} (hK: ∀ ρ' a' w',An P Γ N S' ρ' a' w' -> Ew S.h ρ w S'.h ρ' w' -> a'.defers=a.defers -> (ext=true -> A4 w w') -> (∀ k,Mh S o=some k -> AV (fun b=>∃ q,ρ[k]? =some q/\ q.foot b) w w') -> K a' w'):
 if Region.wanted o (yielded ops a.tmps) then o.wpIn F 0 P a w K Q else (∀ f,o.about P w a.eval=some f -> F.fn f)/\ K (a.put o.dst undef) w:=by
 have Dv: ∀ v,(a.put o.dst v).defers=a.defers:=fun v=>by cases ho:o.dst <;> simp [Act.put]
 unfold OU at h;split at h
 ·cases h
 ·rename_i hw;cases h;rw [zBP (by rw [LF R hw];exact zF7)];exact ⟨fun f _=>hF.fn f,hK ρ _ _ (JP R _ Uv) (Ew.refl _ _ _) (Dv _) (fun _=>A4.refl w) fun _ _=>AV.refl _ _⟩
 ·rename_i hw;rw [zAE (LF R hw)];split at h
  ·rename_i S1 C1 hM;cases h;refine QR hF hd (gX R hM hv) fun v w' ⟨⟨ρ',g1,g2⟩,E5⟩=>hK ρ' _ _ g1 g2 (Dv v) (fun e=>by cases e) fun k' Di=>?_
   obtain ⟨t0,x0,y0,XA,_⟩:=gW Di;rcases E5 with E5 | ⟨k,i,p,t,x,y,q1,q2,q3,q4⟩
   ·exact absurd XA (E5 t0 x0 y0)
   have e:k'=k:=by
    unfold Mh at Di;rw [q1] at Di;simp only [q2] at Di;exact (zBK Di).symm
   subst e;exact q4.mono fun b _ hb=>⟨p,q3,hb⟩
  split at h
  ·cases h
  ·rename_i d h1 C1 ext1 calls cy;split at h;rename_i d' Bz Dy Te;split at h
   ·cases h
   ·rename_i S2 Yp dR It;cases h;obtain ⟨Bn,bq⟩:=DM.1 hv;obtain ⟨CT,Nr⟩:=DM.1 bq;refine QR hF hd (zEy R cy Bn) fun v w' G=>?_
    obtain ⟨ρ',g1,g2⟩:=Tl R o.dst G.1 (d':=d') fun M ρ' hr=>dj Te CT hr
    obtain ⟨g3,g4⟩:=dS _ It Nr P Γ N ρ' _ _ g1;exact hK ρ' _ _ g3 (g2.trans ⟨g4,fun _ _ h=>h⟩) (Dv v) G.1.ext G.2
theorem qs {F:Fence} (hF:EI F P) {ops:Array Oper} (Av:EV ops=true) (hs:Region.noSelect ops=true) {early:List Nat} {xs:List (Nat×Nat)} {nw:List Nat} {L0:Nat} {S':St} {Q:Exit -> Act -> World -> Prop}:
 ∀ (t:ST) (m:Nat) (L:Array Bool) {S:St} {ρ:List AN} {a:Act} {w:World} {vs:List Prop} {A0 Cd:B8},GX ops L -> An P Γ N S ρ a w -> LH P Γ ops early xs nw L0 S' t S A0=some (vs,Cd) -> Bo vs ->
 (∀ ρ' a' w',An P Γ N S' ρ' a' w' -> BL S.h ρ w S'.h ρ' w' -> (∀ k p,k<L0 -> ρ[k]? =some p -> ρ'[k]? =some p) -> a'.defers=a.defers -> Q .normal a' w') ->
 (D1 ops early false m t L=true -> Hg F 0 P ops Q (RZ ops (fun j=>early.contains j) (fun j=>Zs (JK xs nw j) ρ w)) m L a w)/\
 (D1 ops early true m t L=true -> ∀ i∈UZ t,i∈Region.ready .any ops L -> ∃ m',m=m'+1/\ wpOpIn F 0 P ops (NP Q) i (fun a' w'=>RZ ops (fun j=>early.contains j) (fun j=>Zs (JK xs nw j) ρ w) i w w'/\ Hg F 0 P ops Q (RZ ops (fun j=>early.contains j) (fun j=>Zs (JK xs nw j) ρ w)) m' (L.setIfInBounds i true) a' w') a w):=by
 intro t
 induction t with
 | no=>
  intro m L S ρ a w vs A0 aS BU R hV hv hQ;exact ⟨fun h=>by cases m <;> simp [D1] at h,fun _ i hi=>by cases hi⟩
 | fin π live=>
  intro m L S ρ a w vs A0 aS BU R hV hv hQ;refine ⟨fun h=>?_,fun h=>by cases m <;> simp [D1] at h⟩;cases m with
  | succ m=>simp [D1] at h
  | zero=>
   simp only [D1,zBT,zBc] at h;refine ⟨h,?_⟩;simp only [LH] at hV;split at hV
   ·rename_i hσ;cases hV;simp only [gx,zBE,zCK,zBT,zBc] at hσ;obtain ⟨ρ0,R0,rN,k0⟩:=BR.forget (L:=L0) live S.fr S.h P Γ N ρ a w R;obtain ⟨ρ',R',E2,k'⟩:=BR.compact (L:=L0) (U9 π L0) ⟨forget live S.fr,S.h⟩ hσ.1.1 (fun k hk=>hσ.1.2 k hk) (fun k hk=>hσ.2 k hk) P Γ N ρ0 a w R0;have st:=rN.trans E2;have e:Fp (U9 π L0) ⟨forget live S.fr,S.h⟩=S':=hv.1;rw [e] at R' st E2;exact hQ ρ' a w R' st (fun k p hk hp=>k' k p hk (k0 k p hk hp)) rfl
   ·cases hV
 | rd i t ih=>
  intro m L S ρ a w vs A0 aS BU R hV hv hQ;refine ⟨fun h=>?_,fun h=>by cases m <;> simp [D1] at h⟩;cases m with
  | zero=>simp [D1] at h
  | succ m=>
   simp only [D1,zBE] at h;simp only [LH] at hV;split at hV
   ·cases hV
   ·rename_i o ho;split at hV
    ·rename_i Kt;split at hV
     ·cases hV
     ·rename_i S1 C1 UF hp;split at hV
      ·cases hV
      ·rename_i FW Hu h2;cases hV;obtain ⟨Bn,CT⟩:=DM.1 hv;have RK:=An.sel R (fun k=>!(J6 ops xs nw i).contains k);obtain ⟨e1,E5⟩:=V7 RK hp Bn;have Dv: ∀ v,(a.put o.dst v).defers=a.defers:=fun v=>by cases ho:o.dst <;> simp [Act.put]
       have Pp:(Region.ready .any ops L).contains i=true:=by
        have:=h.1;simp only [Ve,zBE] at this;exact this.1.1.1
       have back: ∀ v,CG (MS (fun b=>N b∨∃ k o q,(!(J6 ops xs nw i).contains k)=false/\ S.h[k]? =some (some o)/\ ρ[k]? =some q/\ q.foot b) S1.h ρ) w ρ S1.fr (a.put o.dst v).tmps -> An P Γ N ⟨S1.fr,S.h⟩ ρ (a.put o.dst v) w:=fun v hr=>by
        rw [e1] at hr;exact An.unsel (p:=fun k=>!(J6 ops xs nw i).contains k) R.hr hr
       have hZ: ∀ j,F9 ops ops.size j i=false -> ∀ b,Zs (JK xs nw j) ρ w b -> Zs (J6 ops xs nw i) ρ w b:=by
        rintro j hj b (⟨k,q,k1,k2,k3⟩ | hb)
        ·refine .inl ⟨k,q,?_,k2,k3⟩;unfold JK at k1;unfold J6;rcases zB5.1 k1 with k1 | k1
         ·obtain ⟨p,p1,p2⟩:=zFA.1 k1;obtain ⟨p3,p4⟩:=zFU.1 p1;have:p.1=j:=by simpa using p4
          exact zB5.2 (.inl (zFA.2 ⟨p,zFU.2 ⟨p3,by rw [this,hj];rfl⟩,p2⟩))
         ·exact zB5.2 (.inr k1)
        ·exact .inr hb
       rcases E5 with ⟨hw,v,g1,g2⟩ | ⟨hw,g2⟩
       ·refine i6 (Zi:=Zs (J6 ops xs nw i) ρ w) hF.fn Av hs ho BU h.1 hZ (.inl ⟨hw,fun W hu=>g1 W (ye R.hr Kt hu)⟩) ?_;exact (ih m _ (dk BU Pp) (back v g2.fr) h2 CT fun ρ' a' w' q1 q2 q3 q4=>hQ ρ' a' w' q1 q2 q3 (q4.trans (Dv v))).1 h.2
       ·refine i6 (Zi:=Zs (J6 ops xs nw i) ρ w) hF.fn Av hs (v:=undef) ho BU h.1 hZ (.inr ⟨hw,rfl⟩) ?_;exact (ih m _ (dk BU Pp) (back undef g2.fr) h2 CT fun ρ' a' w' q1 q2 q3 q4=>hQ ρ' a' w' q1 q2 q3 (q4.trans (Dv undef))).1 h.2
    ·cases hV
 | ef i t HV zM zL=>
  intro m L S ρ a w vs A0 aS BU R hV hv hQ;simp only [LH] at hV;split at hV
  ·cases hV
  ·rename_i o ho;split at hV
   ·cases hV
   ·rename_i S1 C1 ext NO h1;split at hV
    ·rename_i XT;simp only [oh,zBE,zBg] at XT;obtain ⟨⟨⟨Kt,zCA⟩,zBX⟩,zBr⟩:=XT;split at hV
     ·cases hV
     rename_i FW Hu h2;split at hV
     ·cases hV
     ·rename_i Uq PM h3;cases hV;obtain ⟨Bn,Ct⟩:=DM.1 hv;obtain ⟨CT,Nr⟩:=DM.1 Ct;have A:=zL m L BU R h3 Nr hQ
      have sub: ∀ {j k:Nat},k∈JK xs nw j -> k∈Qo xs nw:=fun {j k} hk=>by
       unfold JK at hk;unfold Qo;rcases zB5.1 hk with hk | hk
       ·obtain ⟨p,p1,p2⟩:=zFA.1 hk;exact zB5.2 (.inl (zFA.2 ⟨p,(zFU.1 p1).1,p2⟩))
       ·exact zB5.2 (.inr hk)
      have one: ∀ b,D1 ops early b m (.ef i t HV) L=true -> (Region.ready .any ops L).contains i=true -> ∃ m',m=m'+1/\ D1 ops early true m HV L=true/\ wpOpIn F 0 P ops (NP Q) i (fun a' w'=>RZ ops (fun j=>early.contains j) (fun j=>Zs (JK xs nw j) ρ w) i w w'/\ Hg F 0 P ops Q (RZ ops (fun j=>early.contains j) (fun j=>Zs (JK xs nw j) ρ w)) m' (L.setIfInBounds i true) a' w') a w:=by
       intro b hb hr;cases m with
       | zero=>cases b <;> simp [D1] at hb
       | succ m=>
        have C9:(!Sf ops i)=true/\ D1 ops early false m t (L.setIfInBounds i true)=true/\ D1 ops early true (m+1) HV L=true:=by
         cases b <;> simp only [D1,zBE] at hb <;> exact ⟨hb.1.1.2,hb.1.2,hb.2⟩
        obtain ⟨b1,b2,b3⟩:=C9;refine ⟨m,rfl,b3,?_⟩;unfold wpOpIn;simp only [ho];refine zEV hF R (Ii Av ho) h1 Bn fun ρ' a' w' R' st Ea Ju zk=>?_
        refine ⟨⟨fun hp=>(by rw [hp] at b1;cases b1),fun he=>?_⟩,?_⟩
        ·rcases zBr with (h | h) | h
         ·have he:early.contains i=true:=he;rw [he] at h;cases h
         ·exact AV.ofExt (Ju h)
         ·split at h
          ·rename_i k hk;refine (zk k hk).mono fun b _ hb=>?_
           obtain ⟨q,q1,q2⟩:=hb;exact .inl ⟨k,q,by simpa using h,q1,q2⟩
          ·cases h
        ·have T:=(zM m _ (dk BU hr) R' h2 CT fun ρ2 a2 w2 q1 q2 q3 q4=>hQ ρ2 a2 w2 q1 (st.st.trans q2) (fun k p hk hp=>q3 k p hk (st.pl k p hp)) (q4.trans Ea)).1 b2;refine fD (fun j w1 w2 hR=>⟨hR.1,fun he=>(hR.2 he).mono fun b nW hb=>?_⟩) _ _ _ _ T;rcases hb with ⟨k,q,k1,k2,k3⟩ | hb
         ·by_cases hk:k<ρ.length
          ·have e:=st.pl k _ (zBD hk);rw [e] at k2;exact .inl ⟨k,q,k1,by rw [zBD hk];exact k2,k3⟩
          ·refine .inr ?_;rw [R.hr.len] at hk;rcases zBX with hx | hx
           ·have:=zBT.1 hx k (sub k1);simp only [zCK] at this;omega
           ·have Di:k<S1.h.length:=by rw [←R'.hr.len];exact (zBN.1 k2).1
            have ha:=zBT.1 zCA k (sub k1);simp only [zBg,zCK] at ha;rcases ha with ha | ha
            ·omega
            ·cases hg:S1.h.getD k none with
             | none=>rw [hg] at ha;cases ha
             | some ob=>
              rcases st.st.grow b ⟨k,ob,q,getD_some hg,k2,k3⟩ with ⟨i2,o2,p2,g1,g2,g3⟩ | h
              ·exfalso
               have hi2:=(zBN.1 g1).1;have W5:=zBT.1 hx i2 (zBc.2 hi2);have e2:S.h.getD i2 none=some o2:=by rw [u8,g1];rfl
               rw [e2] at W5;cases nK:S1.h.getD i2 none with
               | none=>rw [nK] at W5;cases W5
               | some xR=>exact R'.hr.dis i2 k xR ob p2 q b (by omega) (getD_some nK) (getD_some hg) (st.pl i2 p2 g2) k2 g3 k3
              ·exact h
         ·exact .inr (zBO st.st.upd.size hb)
      refine ⟨fun h=>?_,fun h j hj hr=>?_⟩
      ·have Pp:Region.ready .any ops L=i::UZ HV:=by
        cases m <;> simp only [D1,zBE,zBg,zBf,UZ,zCQ,false_or] at h;exact h.1.1.1
       obtain ⟨m',e,ha,hw⟩:=one false h (by rw [Pp];simp);subst e;refine ⟨by rw [Pp];simp,fun j hj=>?_⟩;have Gl:=hj;rw [Pp] at hj;rcases zCB.1 hj with rfl | hj
       ·exact hw
       ·obtain ⟨m2,e2,TI⟩:=A.2 ha j hj Gl;cases e2;exact TI
      ·rcases zCB.1 hj with rfl | hj
       ·obtain ⟨m',e,ha,hw⟩:=one true h (by simpa using hr);exact ⟨m',e,hw⟩
       ·have ha:D1 ops early true m HV L=true:=by
         cases m <;> simp only [D1,zBE] at h
         ·cases h
         ·exact h.2
        exact A.2 ha j hj hr
    ·cases hV
theorem Tr.tree {F:Fence} {B:Option Nat} {L:Nat} {Y:Be P Γ L} {Q:QY P Γ L} (hF:EI F P) {id:Nat} {ops:Array Oper} {early:List Nat} {t:ST} {A0 Cd:B8} {S':St} {vs:List Prop} (hm:P.follows .mixedOrders=true) (hB:CN ops early t)
 (h:Yw P Γ ops early t S A0=some (S',vs,Cd)) (hv:Bo vs) (hk:Q .normal S' Y):Tr P Γ F B L Y (.region id ops true) S Q:=fun N ρ a w R y m b=>by
 simp only [CN,zBE] at hB;obtain ⟨⟨h1,h2⟩,h3⟩:=hB;unfold Yw at h;split at h
 ·cases h
 split at h
 ·cases h
 ·rename_i hV;cases h;have hE:A4 w w.drew:=A4.toDrew w;refine qT hm ((qs hF h3 h2 t ops.size _ zDv (R.ext hE) hV hv fun ρ' a' w' R' st cV Ea=>?_).1 h1);have E2:BL S.h ρ w S'.h ρ' w':=(BL.ext hE).trans st;exact Tr.done R y m b hk R' E2 (fun k p _ hp=>cV k p (by rw [←R.hr.len];exact (zBN.1 hp).1) hp) Ea
end
end Go.Proofs.YtekkngkphejfcaaGreatDoor
namespace Go.Proofs.YtekkngkphejfcaaGreatDoor
open Go.RowKit
inductive KI where
 | code (c:Code)
 | blk (id:Nat)
 | scp
 | lend (J:St -> Prop)
 | loopN (m:Nat) (b:Code)
def J4 (P:Program) (Γ:A6) (F:Fence) (B:Option Nat) (L:Nat) (b:Code) (Q:QY P Γ L):Nat -> St -> Be P Γ L -> Prop
 | 0,_,_=>False
 | m+1,S,Y=>Tr P Γ F B L Y b S (Q2 (J4 P Γ F B L b Q m) Q)
theorem J4.loop {P:Program} {Γ:A6} {F:Fence} {B:Option Nat} {L:Nat} {Y:Be P Γ L} {b:Code} {Q:QY P Γ L} {m:Nat} {S:St} (h:J4 P Γ F B L b Q m S Y):Tr P Γ F B L Y (.loop b) S Q:=by
 refine Tr.loop (fun m S Y=>J4 P Γ F B L b Q m S Y) m h fun m S Y hm=>?_
 cases m with
 | zero=>exact hm.elim
 | succ m=>
  refine Tr.mono hm fun e S' Y' hq=>?_
  cases e with
  | normal=>exact ⟨m,Nat.lt_succ_self m,hq⟩
  | _=>exact hq
def Dm (P:Program) (Γ:A6) (F:Fence) (B:Option Nat) (L:Nat) (Q:QY P Γ L):List KI -> QY P Γ L
 | [],e,S,Y=>Q e S Y
 | .code c::k,e,S,Y=>match e with
  | .normal=>Tr P Γ F B L Y c S (Dm P Γ F B L Q k)
  | e=>Dm P Γ F B L Q k e S Y
 | .blk id::k,e,S,Y=>match e with
  | .exit i=>if i=id then Dm P Γ F B L Q k .normal S Y else Dm P Γ F B L Q k (.exit i) S Y
  | e=>Dm P Γ F B L Q k e S Y
 | .scp::k,e,S,Y=>match e with
  | .goto _=>False
  | e=>Dm P Γ F B L Q k e S Y
 | .lend J::k,e,S,Y=>match e with
  | .normal=>J S
  | e=>Dm P Γ F B L Q k e S Y
 | .loopN m b::k,e,S,Y=>match e with
  | .normal=>J4 P Γ F B L b (Dm P Γ F B L Q k) m S Y
  | e=>Dm P Γ F B L Q k e S Y
def A3 (P:Program) (Γ:A6) (F:Fence) (B:Option Nat) (L:Nat) (Y:Be P Γ L) (Q:QY P Γ L) (k:List KI) (S:St):Prop:=Dm P Γ F B L Q k .normal S Y
def stay {P:Program} {Γ:A6} {L:Nat} (N:Be P Γ L) (Q:Exit -> St -> Prop):QY P Γ L:=fun e S Y=>Y=N/\ Q e S
abbrev BW (P:Program) (Γ:A6) (F:Fence) (B:Option Nat) (L:Nat) (N:Be P Γ L) (Q:Exit -> St -> Prop) (k:List KI) (S:St):Prop:=A3 P Γ F B L N (stay N Q) k S
def Ie (id:Nat):List KI -> Option (List KI)
 | []=>none
 | .blk i::k=>if id=i then some k else Ie id k
 | _::k=>Ie id k
inductive eO where
 | no
 | ord (st:List (List Nat×Nat)) (la ta:List Nat)
 | stop
 | tre (early:List Nat) (t:ST)
abbrev BJ:=Nat -> eO
def eO.isStop:eO -> Bool
 | .stop=>true
 | _=>false
def AK (i:Nat) (s:BJ):BJ:=fun j=>if j=i then .stop else s j
def Af (ops:Array Oper) (Ei:List (List Nat×Nat)) (Bm tail:List Nat):Prop:=(ZJ ops Ei Bm tail&&EV ops&&tail.all fun t=>decide (t<ops.size))=true
inductive KO where
 | at (k:List KI)
 | ret
def B3 (P:Program) (Γ:A6) (Ay:BJ):Nat -> List KI -> St -> B8 -> Option (KO×St×List Prop×B8)
 | 0,_,_,_=>none
 | n+1,k,S,o=>match k with
  | []=>some (.at [],S,[],o)
  | .blk _::k=>B3 P Γ Ay n k S o
  | .scp::k=>B3 P Γ Ay n k S o
  | .lend J::k=>some (.at (.lend J::k),S,[],o)
  | .loopN m b::k=>some (.at (.loopN m b::k),S,[],o)
  | .code c::k=>match c with
   | .skip=>B3 P Γ Ay n k S o
   | .seq a b=>B3 P Γ Ay n (.code a:: .code b::k) S o
   | .block id b=>B3 P Γ Ay n (.code b:: .blk id::k) S o
   | .scope b=>B3 P Γ Ay n (.code b:: .scp::k) S o
   | .label _=>B3 P Γ Ay n k S o
   | .exit id=>match Ie id k with
    | some k'=>B3 P Γ Ay n k' S o
    | none=>some (.at (.code (.exit id)::k),S,[],o)
   | .ret=>some (.ret,S,[],o)
   | .cond x a b=>match Ao S.fr x with
    | .bool true=>B3 P Γ Ay n (.code a::k) S o
    | .bool false=>B3 P Γ Ay n (.code b::k) S o
    | _=>none
   | .region id ops dr=>if (Ay id).isStop then some (.at (.code (.region id ops dr)::k),S,[],o) else match dr with
    | false=>if EV ops then match E7 P Γ ops ops.toList S o with
     | none=>none
     | some (S',vs,o')=>match B3 P Γ Ay n k S' o' with
      | none=>none
      | some (r,Cn,Bz,Ss)=>some (r,Cn,vs++Bz,Ss)
     else none
    | true=>match Ay id with
     | .no=>none
     | .stop=>none
     | .tre early t=>match Yw P Γ ops early t S o with
      | none=>none
      | some (S',vs,o')=>match B3 P Γ Ay n k S' o' with
       | none=>none
       | some (r,Cn,Bz,Ss)=>some (r,Cn,CN ops early t::(vs++Bz),Ss)
     | .ord st la ta=>match hseq P Γ ops st la ta S o with
      | none=>none
      | some (S',vs,o')=>match B3 P Γ Ay n k S' o' with
       | none=>none
       | some (r,Cn,Bz,Ss)=>some (r,Cn,Af ops st la ta::(vs++Bz),Ss)
   | c=>some (.at (.code c::k),S,[],o)
section
variable {P:Program} {Γ:A6} {F:Fence} {B:Option Nat} {L:Nat} {Y:Be P Γ L} {Q:QY P Γ L}
theorem zCT (hF:EI F P) {S:St} {id:Nat} {ops:Array Oper} {A0 Cd:B8} {S':St} {vs:List Prop} {Q:QY P Γ L} (Av:EV ops=true) (h:E7 P Γ ops ops.toList S A0=some (S',vs,Cd)) (hv:Bo vs) (hk:Q .normal S' Y):Tr P Γ F B L Y (.region id ops false) S Q:=fun N ρ a w R y m b=>
 wpIn_region_list (L8 hF Av _ (fun o ho=>by simpa using ho) R h hv fun ρ' a' w' R' st Ea=>Tr.done R y m b hk R' st.st (fun k p _ hp=>st.pl k p hp) Ea)
theorem zq (hF:EI F P) {S:St} {id:Nat} {ops:Array Oper} {Ei:List (List Nat×Nat)} {Bm tail:List Nat} {A0 Cd:B8} {S':St} {vs:List Prop} {Q:QY P Γ L} (hm:P.follows .mixedOrders=true) (hB:Af ops Ei Bm tail)
 (h:hseq P Γ ops Ei Bm tail S A0=some (S',vs,Cd)) (hv:Bo vs) (hk:Q .normal S' Y):Tr P Γ F B L Y (.region id ops true) S Q:=fun N ρ a w R y m b=>by
 simp only [Af,zBE] at hB;obtain ⟨⟨h1,h2⟩,h3⟩:=hB;have hE:A4 w w.drew:=A4.toDrew w;refine qS hF.fn Ei Bm tail hm (by simp only [zBE];exact ⟨h1,h2⟩) (me hF h2 Ei Bm tail h3 (R.ext hE) h hv fun ρ' a' w' R' st Ea=>?_);have E2:BL S.h ρ w S'.h ρ' w':=(BL.ext hE).trans st.st;exact Tr.done R y m b hk R' E2 (fun k p _ hp=>st.pl k p hp) Ea
theorem NF {id:Nat} {S:St}: ∀ {k k':List KI},Ie id k=some k' -> Dm P Γ F B L Q k' .normal S Y -> Dm P Γ F B L Q k (.exit id) S Y
 | [],_,h,_=>by cases h
 | .blk i::k,k',h,hq=>by
  unfold Ie at h;split at h
  ·rename_i e;cases h;subst e
   show (if id=id then _ else _)
   rw [zAE rfl];exact hq
  ·rename_i e
   show (if id=i then _ else _)
   rw [zBP e];exact NF h hq
 | .code c::k,k',h,hq=>NF (k:=k) h hq
 | .lend J::k,k',h,hq=>NF (k:=k) h hq
 | .scp::k,k',h,hq=>NF (k:=k) h hq
 | .loopN m b::k,k',h,hq=>NF (k:=k) h hq
theorem Oy {S:St} (h:Q .ret S Y): ∀ (k:List KI),Dm P Γ F B L Q k .ret S Y
 | []=>h
 | .blk _::k=>Oy h k
 | .code _::k=>Oy h k
 | .lend _::k=>Oy h k
 | .scp::k=>Oy h k
 | .loopN _ _::k=>Oy h k
def KOk (P:Program) (Γ:A6) (F:Fence) (B:Option Nat) (L:Nat) (Y:Be P Γ L) (Q:QY P Γ L):KO -> St -> Prop
 | .at k,S=>A3 P Γ F B L Y Q k S
 | .ret,S=>Q .ret S Y
theorem FO (hF:EI F P) (hm:P.follows .mixedOrders=true) {Ay:BJ}: ∀ (n:Nat) (k:List KI) (S:St) (o:B8) (r:KO) (S':St) (vs:List Prop) (o':B8),B3 P Γ Ay n k S o=some (r,S',vs,o') -> Bo vs -> KOk P Γ F B L Y Q r S' -> A3 P Γ F B L Y Q k S
 | 0,_,_,_,_,_,_,_,h,_,_=>by cases h
 | n+1,k,S,o,r,S',vs,o',h,hv,hk=>by
  unfold B3 at h;cases k with
  | nil=>cases h;exact hk
  | cons i k=>
   cases i with
   | blk id=>exact FO hF hm n k S o r S' vs o' h hv hk
   | scp=>exact FO hF hm n k S o r S' vs o' h hv hk
   | lend J=>cases h;exact hk
   | loopN m b=>cases h;exact hk
   | code c=>
    show Tr P Γ F B L Y c S (Dm P Γ F B L Q k)
    cases c with
    | skip=>exact Tr.skip (FO hF hm n k S o r S' vs o' h hv hk)
    | seq a b=>
     refine Tr.seq (Tr.mono (FO hF hm n (.code a:: .code b::k) S o r S' vs o' h hv hk) fun e S2 Y2 hq=>?_);cases e <;> exact hq
    | block id b=>
     refine Tr.block (Tr.mono (FO hF hm n (.code b:: .blk id::k) S o r S' vs o' h hv hk) fun e S2 Y2 hq=>?_);cases e <;> exact hq
    | exit id=>
     simp only at h;split at h
     ·rename_i k' hp;exact Tr.exit (NF hp (FO hF hm n k' S o r S' vs o' h hv hk))
     ·cases h;exact hk
    | ret=>cases h;exact Tr.ret (Oy hk k)
    | cond x a b=>
     simp only at h;split at h
     ·rename_i hc;exact Tr.cond hc (fun _=>FO hF hm n (.code a::k) S o r S' vs o' h hv hk) (fun e=>by cases e)
     ·rename_i hc;exact Tr.cond hc (fun e=>by cases e) (fun _=>FO hF hm n (.code b::k) S o r S' vs o' h hv hk)
     ·cases h
    | region id ops dr=>
     simp only at h;split at h
     ·cases h;exact hk
     ·cases dr with
      | false=>
       simp only at h;split at h
       ·rename_i Av;split at h
        ·cases h
        ·rename_i S1 C1 o1 h1;split at h
         ·cases h
         ·rename_i r2 S2 FW o2 h2;cases h;obtain ⟨Bn,CT⟩:=DM.1 hv;exact zCT hF Av h1 Bn (FO hF hm n k S1 o1 _ _ _ _ h2 CT hk)
       ·cases h
      | true=>
       simp only at h;split at h
       ·cases h
       ·cases h
       ·rename_i early t hs;split at h
        ·cases h
        ·rename_i S1 C1 o1 h1;split at h
         ·cases h
         ·rename_i r2 S2 FW o2 h2;cases h;obtain ⟨Jo,Ct⟩:=hv;obtain ⟨Bn,CT⟩:=DM.1 Ct;exact Tr.tree hF hm Jo h1 Bn (FO hF hm n k S1 o1 _ _ _ _ h2 CT hk)
       ·rename_i st la ta hs;split at h
        ·cases h
        ·rename_i S1 C1 o1 h1;split at h
         ·cases h
         ·rename_i r2 S2 FW o2 h2;cases h;obtain ⟨Jo,Ct⟩:=hv;obtain ⟨Bn,CT⟩:=DM.1 Ct;exact zq hF hm Jo h1 Bn (FO hF hm n k S1 o1 _ _ _ _ h2 CT hk)
    | loop b=>cases h;exact hk
    | rangeFunc f ps pk bd=>cases h;exact hk
    | scope b=>
     refine Tr.scope (Tr.mono (FO hF hm n (.code b:: .scp::k) S o r S' vs o' h hv hk) fun e S2 Y2 hq=>?_);cases e <;> exact hq
    | label l=>exact Tr.label (FO hF hm n k S o r S' vs o' h hv hk)
    | goto l=>cases h;exact hk
    | refuse w=>cases h;exact hk
theorem A3.weaken {k:List KI} {S S':St} (hS:BR L S S') (h:A3 P Γ F B L Y Q k S') (hk: ∃ c k',k= .code c::k'):A3 P Γ F B L Y Q k S:=by
 obtain ⟨c,k',rfl⟩:=hk;exact Tr.weaken hS h
def Ng:List KI -> Bool
 | .code (.loop _)::_=>true
 | _=>false
def EL (k:List KI):List KI:=match k with
 | _::rest=>rest
 | []=>[]
def MD (id:Nat):List Nat -> Code -> List KI -> Option (List KI)
 | ms,.seq a b,k=>match MD id ms a (.code b::k) with
  | some r=>some r
  | none=>MD id ms b k
 | ms,.cond _ a b,k=>match MD id ms a k with
  | some r=>some r
  | none=>MD id ms b k
 | ms,.block i c,k=>if i=id then some (.code c:: .blk i::k) else MD id ms c (.blk i::k)
 | ms,.scope c,k=>MD id ms c (.scp::k)
 | m::ms,.loop b,k=>MD id ms b (.loopN m b::k)
 | _,_,_=>none
def ME (id:Nat):List Nat -> Code -> List KI -> Option (List KI)
 | ms,.seq a b,k=>match ME id ms a (.code b::k) with
  | some r=>some r
  | none=>ME id ms b k
 | ms,.cond _ a b,k=>match ME id ms a k with
  | some r=>some r
  | none=>ME id ms b k
 | ms,.block i c,k=>ME id ms c (.blk i::k)
 | ms,.scope c,k=>ME id ms c (.scp::k)
 | m::ms,.loop b,k=>ME id ms b (.loopN m b::k)
 | _,.region i ops dr,k=>if i=id then some (.code (.region i ops dr)::k) else none
 | _,_,_=>none
def Ah (m:Nat) (k:List KI):List KI:=match k with
 | .code (.loop b)::rest=>.loopN m b::rest
 | _=>[]
def fY (m:Nat) (k:List KI):List KI:=match k with
 | .code (.loop b)::rest=>.code b:: .loopN m b::rest
 | _=>[]
def start (f:Func):List KI:=match f.body with
 | some c=>[.code c]
 | none=>[]
def JU (c:Code) (id:Nat):Array Oper:=match c with
 | .region i ops _=>if i=id then ops else #[]
 | .seq a b=>let x:=JU a id;if x.size=0 then JU b id else x
 | .cond _ a b=>let x:=JU a id;if x.size=0 then JU b id else x
 | .block _ c=>JU c id
 | .loop c=>JU c id
 | .scope c=>JU c id
 | .rangeFunc _ _ a b=>let x:=JU a id;if x.size=0 then JU b id else x
 | _=>#[]
def Ax (f:Func) (id:Nat):Array Oper:=match f.body with
 | some c=>JU c id
 | none=>#[]
theorem BW.enter {k:List KI} {S:St} (m:Nat) (hk:Ng k=true) (h:A3 P Γ F B L Y Q (Ah m k) S):A3 P Γ F B L Y Q k S:=by
 unfold Ng at hk;split at hk
 ·exact J4.loop h
 ·cases hk
theorem BW.round {k:List KI} {S:St} {n m:Nat} (hm:n+1<=m) (hk:Ng k=true) (h: ∀ m,n<=m -> A3 P Γ F B L Y Q (fY m k) S):A3 P Γ F B L Y Q (Ah m k) S:=by
 cases m with
 | zero=>omega
 | succ m=>
  have h:=h m (Nat.le_of_succ_le_succ hm);unfold Ng at hk;split at hk
  ·refine Tr.mono h fun e S' Y' hq=>?_
   cases e <;> exact hq
  ·cases hk
def AM (n:Nat) (l:List (Nat×DV)):List DV:=(List.range n).map fun i=>match l.find? (fun x=>x.1==i) with
 | some x=>x.2
 | none=>.any
theorem F6.le {fn:Func} {d:DV} {h':DH} {e:Exit} {S S':St} (hS:BR L S S') (h:F6 P fn L d h' e S'):F6 P fn L d h' e S:=by
 obtain ⟨he,Cn,h1,h2⟩:=h;exact ⟨he,Cn,hS.trans h1,h2⟩
theorem ES.of_trk {f:Nat} {fn:Func} {ds:List DV} {h:DH} {d:DV} {h':DH} {ext:Bool} (hf:P.funcs[f]? =some fn) (hb:fn.body.isSome=true) (Kq:(fn.name== "runtime.NumGoroutine")=false) (hni:Sx h') (Ju:ext=true -> h= [])
 (H: ∀ (B:Nat) (N:Be P Γ h.length),BW P Γ Fence.wide (some B) h.length N (F6 P fn h.length d h') (start fn) ⟨ds++List.replicate (fn.ntmps-ds.length) .any,h⟩):ES P Γ f ds h d h' ext:=by
 cases hc:fn.body with
 | none=>rw [hc] at hb;cases hb
 | some c=>
  refine ES.of_tr hf hc (by simpa using Kq) hni (fun B N=>?_) Ju;have:=H B N;unfold start at this;rw [hc] at this;refine Tr.mono this fun e S Y hq=>?_
  cases e <;> exact hq
def HF:DV -> Bool
 | .mse .. =>false
 | .mri .. =>false
 | .ref .. =>false
 | .msl .. =>false
 | .mp .. =>false
 | .it _=>false
 | .agg m f=>(List.range m).all fun j=>HF (f j)
 | .tup m f=>(List.range m).all fun j=>HF (f j)
 | .fn _ m f=>(List.range m).all fun j=>HF (f j)
 | _=>true
theorem PO: ∀ {d:DV},HF d=true -> IK d:=by
 intro d
 induction d with
 | any=>exact fun _ _ _ _ _ _=>trivial
 | nils=>exact fun _ _ _ _ _ h=>h
 | int k n=>exact fun _ _ _ _ _ h=>h
 | bool b=>exact fun _ _ _ _ _ h=>h
 | str s=>exact fun _ _ _ _ _ h=>h
 | ints l=>exact fun _ _ _ _ _ h=>h
 | bools l=>exact fun _ _ _ _ _ h=>h
 | sl m n f _=>exact fun _ _ _ _ _ h=>h
 | fp m f _=>exact fun _ _ _ _ _ h=>h
 | agg m f ih=>exact fun hb=>IK.agg fun j hj=>ih j (zBT.1 hb j (zBc.2 hj))
 | tup m f ih=>exact fun hb=>IK.tup fun j hj=>ih j (zBT.1 hb j (zBc.2 hj))
 | ref k j=>exact fun hb=>by cases hb
 | msl k m o n=>exact fun hb=>by cases hb
 | mp k m i j=>exact fun hb=>by cases hb
 | fn g m c ih=>exact fun hb M w ρ v ⟨cs,e,hs,hc⟩=>⟨cs,e,hs,fun j hj=>let ⟨u,h1,h2⟩:=hc j hj;⟨u,h1,ih j (zBT.1 hb j (zBc.2 hj)) M w ρ u h2⟩⟩
 | it k=>exact fun hb=>by cases hb
 | yl l=>exact fun _ _ _ _ _ h=>h
 | cst u=>exact fun _ _ _ _ _ h=>h
 | mse k m o n=>exact fun hb=>by cases hb
 | mri k i=>exact fun hb=>by cases hb
theorem ES.frameB {f:Nat} {ds:List DV} {d:DV} (h0:ES P Γ f ds [] d [] true) (h:DH) (Fl:ds.all HF=true):ES P Γ f ds h d h true:=h0.frame (fun x hx=>PO (zBT.1 Fl x hx)) h
def VD:DV -> Bool
 | .int .. =>true
 | .bool _=>true
 | .tup m f=>(List.range m).all fun j=>match f j with
  | .int .. =>true
  | .bool _=>true
  | _=>false
 | _=>false
theorem rj {d:DV} (h:VD d=true):Gx d:=by
 unfold VD at h;split at h
 ·exact Gx.int _ _
 ·exact Gx.bool _
 ·rename_i m f;refine Gx.tup fun j hj=>?_
  have:=zBT.1 h j (zBc.2 hj);split at this
  ·rename_i e;rw [e];exact Gx.int _ _
  ·rename_i e;rw [e];exact Gx.bool _
  ·cases this
 ·cases h
def MP (h:DH):List DV -> List DV -> Prop
 | [],[]=>True
 | d::ds,d0::Dk=>Ar h d d0/\ MP h ds Dk
 | _,_=>False
theorem Qf {h:DH}: ∀ {ds Dk:List DV},MP h ds Dk -> Dk.length=ds.length/\ ∀ i,i<ds.length -> Ar h (ds.getD i .any) (Dk.getD i .any)
 | [],[],_=>⟨rfl,fun i hi=>absurd hi (zBW i)⟩
 | d::ds,d0::Dk,⟨h1,h2⟩=>by
  obtain ⟨e,g⟩:=Qf h2;refine ⟨by simp [e],fun i hi=>?_⟩;cases i with
  | zero=>exact h1
  | succ i=>exact g i (by simpa using hi)
 | [],_::_,h=>h.elim
 | _::_,[],h=>h.elim
theorem Ar.plain {h:DH} {d:DV} (hn:HF d=true):Ar h d d:=Ar.nref (PO hn)
theorem Ar.nils {h:DH}:Ar h .nils (.ints []):=fun _ _ _ _ _ _ _ hr=>AS.ints_nil _ _ _ _ (AQ.out _ (DR (M:=fun _=>False) (fun _ hb=>hb) []) hr)
theorem ES.snapB {f:Nat} {ds Dk:List DV} {d:DV} (h0:ES P Γ f Dk [] d [] true) (h:DH) (hs:MP h ds Dk) (hd:VD d=true):ES P Γ f ds h d h true:=ES.snap h0 h (Qf hs).1 (Qf hs).2 (rj hd)
theorem AS.of_eq {d d':DV} (h:d=d'):AS d d':=by rw [h];exact AS.refl _
theorem Ni {M:Nat -> Prop} {w:World} {ρ:List AN} {v:Value} {l:List Int} (h:AQ M w (.ints l) ρ v):l.length<=LB:=let ⟨_,_,_,_,h,_⟩:=h;h
theorem qO {x c:Int} (h1:x=c) (h2: -9223372036854775808<=c) (h3:c<=9223372036854775807):IntKind.i64.wrap x=c:=by
 subst h1;rw [IntKind.wrap_i64];omega
end
end Go.Proofs.YtekkngkphejfcaaGreatDoor
namespace Go.Proofs.YtekkngkphejfcaaGreatDoor
open Go.RowKit
def MU (w:World):Prop:=TabAt 1 Lib.deBruijn64tab w
def GG:A6 where
 ng:=2
 gi:=fun w=>MU w/\ 2<=w.heap.size
 st:=fun w w' h hu=>⟨fun j hj=>hu.cell (by show ¬ (2<=1);omega) (h.1 j hj),zBO h.2 hu.size⟩
 lo:=fun w h=>h.2
end Go.Proofs.YtekkngkphejfcaaGreatDoor
namespace Go.Proofs.YtekkngkphejfcaaGreatDoor
abbrev zGA:=@List.all_cons
end Go.Proofs.YtekkngkphejfcaaGreatDoor
namespace Go.Proofs.YtekkngkphejfcaaGreatDoor
open Go.RowKit
theorem Fn {α:Type} {c:Prop} [Decidable c] {a:Option α} {r:α} (h:(if c then a else none)=some r):c/\ a=some r:=by
 split at h
 ·exact ⟨by assumption,h⟩
 ·cases h
theorem pT {α β:Type} {o:Option β} {f:β -> Option α} {r:α} (h:o.bind f=some r): ∃ v,o=some v/\ f v=some r:=by
 cases o with
 | none=>cases h
 | some v=>exact ⟨v,rfl,h⟩
theorem Kz {α:Type} {b:Bool} {x y:Option α} {r:α} (h:(bif b then x else y)=some r):(b=true/\ x=some r)∨(b=false/\ y=some r):=by
 cases b
 ·exact .inr ⟨rfl,h⟩
 ·exact .inl ⟨rfl,h⟩
def wR:Int -> Bool
 | .ofNat n=>Nat.ble n 9223372036854775807
 | .negSucc n=>Nat.ble n 9223372036854775807
def AG (x:Int):Prop:=wR x=true
instance (x:Int):Decidable (AG x):=by unfold AG;infer_instance
theorem Ae {x:Int}:AG x↔-9223372036854775808<=x/\ x<=9223372036854775807:=by
 unfold AG;cases x with
 | ofNat n=>
  show Nat.ble n 9223372036854775807=true↔_
  rw [Nat.ble_eq];simp only [Int.ofNat_eq_natCast];omega
 | negSucc n=>
  show Nat.ble n 9223372036854775807=true↔_
  rw [Nat.ble_eq];omega
theorem qP {x:Int} (h:AG x):AS (.int .i64 (IntKind.i64.wrap x)) (.int .i64 x):=AS.int (qO rfl (Ae.1 h).1 (Ae.1 h).2)
def comp (live σ:List Nat) (S:St):St:=Fp σ ⟨forget live S.fr,S.h⟩
def KE (σ:List Nat) (L n:Nat):Bool:=decide σ.Nodup&&σ.all (fun k=>decide (k<n))&&(List.range L).all fun k=>decide (σ[k]? =some k)
theorem BR.comp {L:Nat} (live σ:List Nat) (S:St) (h:KE σ L S.h.length=true):BR L S (comp live σ S):=by
 simp only [KE,zBE,zCK,zBT,zBc] at h;exact (BR.forget live S.fr S.h).trans (BR.compact σ _ h.1.1 (fun k hk=>h.1.2 k hk) (fun k hk=>h.2 k hk))
def Sk (live σ:List Nat) (L:Nat) (r:KO×St×List Prop×B8):KO×List DV×DH×List Prop×List (DV×DH×Bool)×List (Nat×DV)×Bool:=(r.1,(Proofs.YtekkngkphejfcaaGreatDoor.comp live σ r.2.1).fr,(Proofs.YtekkngkphejfcaaGreatDoor.comp live σ r.2.1).h,r.2.2.1,r.2.2.2.calls,r.2.2.2.co,KE σ L r.2.1.h.length)
section
variable {P:Program} {Γ:A6} {F:Fence} {B:Option Nat} {L:Nat} {Y N:Be P Γ L} {Q:QY P Γ L}
theorem xD {Ay:BJ} {n:Nat} {k:List KI} {S:St} {o:B8} {live σ:List Nat} {r:KO} {fr:List DV} {h':DH} {vs:List Prop} (h:(B3 P Γ Ay n k S o).map (Sk live σ L)=some (r,fr,h',vs,[],[],true)):
 ∃ S' o',B3 P Γ Ay n k S o=some (r,S',vs,o')/\ BR L S' ⟨fr,h'⟩:=by
 cases hr:B3 P Γ Ay n k S o with
 | none=>rw [hr] at h;cases h
 | some r=>
  obtain ⟨r1,S1,C1,⟨c1,o1,z1,g1⟩⟩:=r;rw [hr] at h;simp only [zCL,Sk,zFC,zFg] at h;obtain ⟨rfl,rfl,rfl,rfl,rfl,rfl,hs⟩:=h;exact ⟨S1,_,rfl,BR.comp live σ S1 hs⟩
def Ij:List KI -> Bool
 | .code _::_=>true
 | .loopN _ _::_=>true
 | _=>false
theorem J4.weaken {b:Code} {m:Nat} {S S':St} (hS:BR L S S') (h:J4 P Γ F B L b Q m S' Y):J4 P Γ F B L b Q m S Y:=by
 cases m with
 | zero=>exact h.elim
 | succ m=>exact Tr.weaken hS h
theorem BW.le {k:List KI} {S S':St} (hS:BR L S S') (hc:Ij k=true) (h:A3 P Γ F B L Y Q k S'):A3 P Γ F B L Y Q k S:=by
 unfold Ij at hc;split at hc
 ·exact A3.weaken hS h ⟨_,_,rfl⟩
 ·exact J4.weaken hS h
 ·cases hc
theorem BR.frzE {S:St} (k:Nat) (S':St) (vs:List Prop) (h:Tp k S=some (S',vs)) (hv:Bo vs):BR L S S':=fun P Γ N ρ a w R=>
 ⟨ρ,(Dn.frzE k S' vs h hv P Γ N ρ a w R).1,(Dn.frzE k S' vs h hv P Γ N ρ a w R).2,Ef.refl _ _⟩
theorem BR.compE {S:St} (σ:List Nat) (h:KE σ L S.h.length=true):BR L S (Fp σ S):=by
 simp only [KE,zBE,zCK,zBT,zBc] at h;exact BR.compact σ _ h.1.1 (fun k hk=>h.1.2 k hk) (fun k hk=>h.2 k hk)
def ac:Option DO -> Bool
 | some (.iter _)=>false
 | _=>true
theorem lJ {h:DH} (hb:h.all ac=true):Sx h:=fun k encs hk=>by
 have:=zBT.1 hb _ (zCc hk);cases this
theorem Ar.refL {h:DH} {k:Nat} {l l0:List DV} (hk:h[k]? =some (some (.cells l))) (hs:MP h l l0):Ar h (.ref k 0) (.fp l.length (fun j=>l0.getD j .any)):=
 Ar.ref hk (zBa _) fun j hj=>(Qf hs).2 j hj
theorem Ar.fnL {h:DH} {g:Nat} {l l0:List DV} (hs:MP h l l0):Ar h (.fn g l.length (fun j=>l.getD j .any)) (.fn g l.length (fun j=>l0.getD j .any)):=by
 rintro P Γ N ρ w v H ⟨lb,e,hl,hc⟩;exact ⟨lb,e,hl,fun j hj=>let ⟨u,h1,h2⟩:=hc j hj;⟨u,h1,(Qf hs).2 j hj P Γ N ρ w u H h2⟩⟩
theorem AS.ixI (l:List Int) {n:Int} {m:Nat} (hm:m=l.length) (h:(0:Int)<=n/\ n<((m:Nat):Int)):AS ((l.map (DV.int .i64)).getD n.toNat .any) (.int .i64 (l.getD n.toNat 0)):=by
 subst hm;have hl:n.toNat<l.length:=by omega
 have:(l.map (DV.int .i64)).getD n.toNat .any= .int .i64 (l.getD n.toNat 0):=by simp [hl]
 rw [this];exact AS.refl _
theorem AS.mslN {k m o n n':Nat} (h:n=n'):AS (.msl k m o n) (.msl k m o n'):=by rw [h];exact AS.refl _
def uH:DO -> Bool
 | .ints _=>true
 | .bools _=>true
 | _=>false
theorem ES.snapNew {f:Nat} {ds Dk:List DV} {m n:Nat} {o:DO} (h0:ES P Γ f Dk [] (.msl 0 m 0 n) [some o] true) (h:DH) (hs:MP h ds Dk) (ho:uH o=true):ES P Γ f ds h (.msl h.length m 0 n) (h++[some o]) true:=by
 obtain ⟨hl,hs⟩:=Qf hs;refine ⟨h0.1,fun N ρ w args HR CU=>?_⟩;refine (h0.2 (fun _=>False) [] w args (Po (fun b hb=>hb.elim) HR.gi) ⟨by rw [hl];exact CU.1,fun i hi=>?_⟩).mono ?_
 ·rw [hl] at hi;exact AQ.out _ (DR (fun b hb=>Od.1 hb) []) (hs i hi P Γ N ρ w _ HR (CU.2 i hi))
 ·rintro e w' ⟨v,rfl,⟨⟨ρ',g1,g2,g3,g4⟩,g5⟩⟩;have hE:=g5 rfl;obtain ⟨p,hp,C8⟩:=g1.obj 0 o rfl;have hf: ∀ b,p.foot b -> w.heap.size<=b:=fun b hb=>(g3.grow b ⟨0,o,p,rfl,hp,hb⟩).resolve_left fun ⟨k,o',p',q1,_⟩=>by simp at q1
  obtain ⟨p',cap,BE,e1,e2,e3,e4⟩:=g2;have ep:p'=p:=zBK (BE.symm.trans hp);subst ep;refine ⟨v,rfl,⟨⟨ρ++[p'],HR.snoc hE (fun b hb=>⟨hf b hb,(g1.cel 0 o p' b rfl hp hb).2.2⟩) ?_,⟨p',cap,by rw [←HR.len];simp,e1,e2,e3,e4⟩,BL.snoc HR hE hf,fun _ _ h=>D9 h⟩,g5⟩⟩;cases o with
  | ints l=>exact Ag.out C8 rfl fun j u _ hu=>hu
  | bools l=>exact Ag.out C8 rfl fun j u _ hu=>hu
  | cells l=>cases ho
  | arr m n f=>cases ho
  | iter encs=>cases ho
  | mo x=>cases ho
theorem eK {h:DH}: ∀ {ds:List DV},ds.all HF=true -> MP h ds ds
 | [],_=>trivial
 | d::ds,hd=>by
  simp only [zGA,zBE] at hd;exact ⟨Ar.plain hd.1,eK hd.2⟩
theorem AS.aggL {m:Nat} {l l':List DV} (hm:m=l.length) (h:K2 l l'):AS (.agg m (fun j=>l.getD j .any)) (.agg m (fun j=>l'.getD j .any)):=by
 subst hm;rintro M w ρ v ⟨cs,e,hs,hc⟩;exact ⟨cs,e,hs,fun j hj=>let ⟨u,h1,h2⟩:=hc j hj;⟨u,h1,(Ub h).2 j hj M w ρ u h2⟩⟩
theorem AS.tupL {m:Nat} {l l':List DV} (hm:m=l.length) (h:K2 l l'):AS (.tup m (fun j=>l.getD j .any)) (.tup m (fun j=>l'.getD j .any)):=by
 subst hm;rintro M w ρ v ⟨cs,e,hs,hc⟩;exact ⟨cs,e,hs,fun j hj=>let ⟨u,h1,h2⟩:=hc j hj;⟨u,h1,(Ub h).2 j hj M w ρ u h2⟩⟩
theorem Ar.dle {h:DH} {d d0:DV} (hn:HF d=true) (hd:AS d d0):Ar h d d0:=fun P Γ N ρ w v H hr=>hd _ _ _ _ ((Ar.nref (PO hn)) P Γ N ρ w v H hr)
theorem ES.argsLe {f:Nat} {ds Dk:List DV} {h h':DH} {d:DV} {ext:Bool} (h0:ES P Γ f Dk h d h' ext) (hd:K2 ds Dk):ES P Γ f ds h d h' ext:=by
 obtain ⟨hl,hd⟩:=Ub hd;exact ⟨h0.1,fun N ρ w args HR CU=>h0.2 N ρ w args HR ⟨by rw [←hl];exact CU.1,fun i hi=>hd i (by omega) _ _ _ _ (CU.2 i (by omega))⟩⟩
theorem AS.mse_msl {k m o n n':Nat} (h:0<n) (e:n=n'):AS (.mse k m o n) (.msl k m o n'):=by
 subst e;rintro M w ρ v ⟨p,a,cap,hp,rfl,h1,h2,h3⟩;obtain ⟨rfl,h4⟩:=h3 (by omega);exact ⟨p,cap,hp,rfl,h1,h2,h4⟩
theorem AS.mse_nil {k m o n:Nat} (h:n=0):AS (.mse k m o n) (.ints []):=by
 subst h;rintro M w ρ v ⟨p,a,cap,hp,rfl,h1,h2,h3⟩;exact ⟨a,cap,rfl,zE6 _,zE6 _,fun j hj=>absurd hj (zBW j)⟩
theorem WB {n:Nat} (h:(n==0)=false):0<n:=by
 have:n≠0:=by simpa using h
 omega
def LT (k off k':Nat):DV -> DV
 | .msl k1 m o n=>if k1=k/\ m=1/\ o=off then .msl k' 1 0 n else .msl k1 m o n
 | d=>d
def iZ (k off:Nat) (S:St):Option (St×List Prop):=match S.h.getD k none with
 | some (.ints l)=>some (⟨S.fr.map (LT k off S.h.length),S.h.set k none++[some (.ints (l.drop off))]⟩,[off<=l.length])
 | _=>none
theorem BR.rootE {S:St} (k off:Nat) (S':St) (vs:List Prop) (h:iZ k off S=some (S',vs)) (hv:Bo vs):BR L S S':=fun P Γ N ρ a w R=>by
 unfold iZ at h;split at h
 ·rename_i l hl;cases h;have hv:=hv.1;have hk:=getD_some hl;obtain ⟨p,hp,hr⟩:=R.hr.obj k _ hk;have hr:Ag w p l.length _:=hr;obtain ⟨hf,cs,t,c1,c2,c3,c4⟩:=hr
  let p':AN:={ p with off:=p.off+off }
  obtain ⟨g1,g2⟩:=R.hr.regrow (o':=.ints (l.drop off)) (p':=p') hk hp (AV.refl _ _) (fun b hb=>⟨.inl hb,(R.hr.cel k _ p b hk hp hb).2.2⟩) (by
   refine ⟨hf,cs,t,c1,?_,c3,fun j hj=>?_⟩
   ·simp only [zGP,p'];omega
   ·rw [zGP] at hj;obtain ⟨u,q1,q2⟩:=c4 (off+j) (by omega);refine ⟨u,by rw [←q1];simp only [p',zDG],?_⟩;rw [q2];simp [u8,zFc])
  have O:Ba (MS N S.h ρ) w ρ (MS N (S.h.set k none++[some (.ints (l.drop off))]) (ρ++[p'])) w (ρ++[p']):=⟨fun _ _ _ _=>rfl,fun b hb=>hb.elim (fun h=>.inl (.inl h)) fun h=>(g2.grow b h).imp .inr id,fun _ _ h=>D9 h⟩;refine ⟨ρ++[p'],⟨g1,by simp [R.fr.1],fun i hi=>?_⟩,g2,fun _ _ _ h=>D9 h⟩;have A5:i<S.fr.length:=by simpa using hi
  have e:(S.fr.map (LT k off S.h.length)).getD i .any=LT k off S.h.length (S.fr.getD i .any):=by simp [A5]
  show AQ _ w ((S.fr.map (LT k off S.h.length)).getD i .any) _ _
  rw [e];have r0:=R.fr.2 i A5;cases hd:S.fr.getD i .any with
  | msl k1 m o n=>
   rw [hd] at r0
   by_cases hc:k1=k/\ m=1/\ o=off
   ·have e2:LT k off S.h.length (.msl k1 m o n)= .msl S.h.length 1 0 n:=by simp only [LT,zAE hc]
    rw [e2];obtain ⟨h1,h2,h3⟩:=hc;rw [h1,h2,h3] at r0;obtain ⟨q,cap,hq,hu,u1,u2,u3⟩:=r0;have eq:q=p:=zBK (hq.symm.trans hp);subst eq;exact ⟨p',cap,by rw [←R.hr.len];simp,by rw [hu];simp [p'],u1,u2,by simp only [p'];omega⟩
   ·have e2:LT k off S.h.length (.msl k1 m o n)= .msl k1 m o n:=by simp only [LT,zBP hc]
    rw [e2];exact AQ.out _ O r0
  | _=>rw [hd] at r0;exact AQ.out _ O r0
 ·cases h
theorem AS.msl_mse {k m o n:Nat}:AS (.msl k m o n) (.mse k m o n):=fun _ _ _ _ ⟨p,cap,hp,hv,h1,h2,h3⟩=>⟨p,_,cap,hp,hv,h1,h2,fun _=>⟨rfl,h3⟩⟩
def NV (k q:Nat):DV -> DV
 | .msl k1 m o n=>if k1=k then .msl q m o n else .msl k1 m o n
 | .mse k1 m o n=>if k1=k then .mse q m o n else .mse k1 m o n
 | d=>d
def mapOb (g:DV -> DV):Option DO -> Option DO
 | some (.cells l)=>some (.cells (l.map g))
 | o=>o
def lS (k:Nat) (S:St):Option St:=match S.h.getD k none with
 | some (.ints l)=>some ⟨S.fr.map (NV k S.h.length),(S.h.set k none++[some (DO.ints l)]).map (mapOb (NV k S.h.length))⟩
 | _=>none
theorem S0 {g:DV -> DV} {h:DH} {k:Nat} {o':DO} (hk:(h.map (mapOb g))[k]? =some (some o')): ∃ o,h[k]? =some (some o)/\ mapOb g (some o)=some o':=by
 rw [zBn] at hk;cases hx:h[k]? with
 | none=>rw [hx] at hk;cases hk
 | some x=>
  rw [hx] at hk;have hk:mapOb g x=some o':=zBK hk;cases x with
  | none=>cases hk
  | some o=>exact ⟨o,rfl,hk⟩
theorem MO.mapOb {g:DV -> DV} {h:DH} {ρ:List AN} {b:Nat}:MO (h.map (mapOb g)) ρ b↔MO h ρ b:=by
 constructor
 ·rintro ⟨k,o',p,h1,h2,h3⟩;obtain ⟨o,g1,_⟩:=S0 h1;exact ⟨k,o,p,g1,h2,h3⟩
 ·rintro ⟨k,o,p,h1,h2,h3⟩;cases o with
  | cells l=>exact ⟨k,.cells (l.map g),p,by rw [zBn,h1];rfl,h2,h3⟩
  | _=>exact ⟨k,_,p,by rw [zBn,h1];rfl,h2,h3⟩
theorem BX.mapCells {N:Nat -> Prop} {h:DH} {ρ:List AN} {w:World} (H:BX P Γ N h ρ w) {g:DV -> DV} (hg: ∀ d u,AQ (MS N h ρ) w d ρ u -> AQ (MS N h ρ) w (g d) ρ u):BX P Γ N (h.map (mapOb g)) ρ w:=by
 have hM: ∀ b,MS N (h.map (mapOb g)) ρ b -> MS N h ρ b:=fun b hb=>hb.imp id MO.mapOb.1
 refine ⟨by rw [H.len];simp,fun k o' hk=>?_,fun k o' p b h1 h2 h3=>?_,fun k k' o1 o2 p1 p2 b AY h1 h2 h3 h4 h5 h6=>?_,H.nlt,H.gi⟩
 ·obtain ⟨o,h1,h2⟩:=S0 hk;obtain ⟨p,hp,hr⟩:=H.obj k o h1;refine ⟨p,hp,?_⟩;have O:Ba (MS N h ρ) w ρ (MS N (h.map (mapOb g)) ρ) w ρ:=⟨fun _ _ _ _=>rfl,fun b hb=>.inl (hM b hb),fun _ _ h=>h⟩;cases o with
  | cells l=>
   cases h2
   show Ag w p (l.map g).length _
   rw [zE4];refine Ag.out hr rfl fun j u hj hu=>?_
   have e:(l.map g).getD j .any=g (l.getD j .any):=by simp [hj]
   rw [e];exact AQ.out _ O (hg _ _ hu)
  | ints l=>cases h2;exact Ag.out hr rfl fun j u _ hu=>hu
  | bools l=>cases h2;exact Ag.out hr rfl fun j u _ hu=>hu
  | arr m n f=>cases h2;exact Ag.out hr rfl fun j u _ hu=>AQ.out _ O.nil hu
  | iter encs=>
   cases h2;obtain ⟨gf,lb,Rd,q1,q2,q3,q4⟩:=hr;exact ⟨gf,lb,Rd,q1,q2,fun b hb=>⟨fun hm=>(q3 b hb).1 (hM b hm),(q3 b hb).2⟩,q4⟩
  | mo x=>cases h2;exact hr
 ·obtain ⟨o,g1,_⟩:=S0 h1;exact H.cel k o p b g1 h2 h3
 ·obtain ⟨o,g1,_⟩:=S0 h1;obtain ⟨o',g2,_⟩:=S0 h2;exact H.dis k k' o o' p1 p2 b AY g1 g2 h3 h4 h5 h6
theorem BR.moveE {S:St} (k:Nat) (S':St) (h:lS k S=some S'):BR L S S':=fun P Γ N ρ a w R=>by
 unfold lS at h;split at h
 ·rename_i l hl;cases h;have hk:=getD_some hl;obtain ⟨p,hp,hr⟩:=R.hr.obj k _ hk;obtain ⟨g1,g2⟩:=R.hr.regrow (o':=.ints l) (p':=p) hk hp (AV.refl _ _) (fun b hb=>⟨.inl hb,(R.hr.cel k _ p b hk hp hb).2.2⟩) hr;have Fj: ∀ (i:Nat) (q:AN),ρ[i]? =some q -> (ρ++[p])[i]? =some q:=fun _ _ h=>D9 h
  have O:Ba (MS N S.h ρ) w ρ (MS N (S.h.set k none++[some (DO.ints l)]) (ρ++[p])) w (ρ++[p]):=⟨fun _ _ _ _=>rfl,fun b hb=>hb.elim (fun h=>.inl (.inl h)) fun h=>(g2.grow b h).imp .inr id,Fj⟩;have hq:(ρ++[p])[S.h.length]? =some p:=by rw [←R.hr.len];simp
  have mv: ∀ {M:Nat -> Prop} (d:DV) (u:Value),AQ M w d (ρ++[p]) u -> AQ M w (NV k S.h.length d) (ρ++[p]) u:=fun {M} d u hd=>by
   unfold NV;split
   ·rename_i k1 m o n;split
    ·rename_i e;obtain ⟨q,cap,Pr,r⟩:=hd;subst e;have:q=p:=zBK (Pr.symm.trans (Fj _ _ hp));subst this;exact ⟨q,cap,hq,r⟩
    ·exact hd
   ·rename_i k1 m o n;split
    ·rename_i e;obtain ⟨q,a0,cap,Pr,r⟩:=hd;subst e;have:q=p:=zBK (Pr.symm.trans (Fj _ _ hp));subst this;exact ⟨q,a0,cap,hq,r⟩
    ·exact hd
   ·exact hd
  have R1:=g1.mapCells (g:=NV k S.h.length) fun d u=>mv d u
  have hM: ∀ b,MS N ((S.h.set k none++[some (DO.ints l)]).map (mapOb (NV k S.h.length))) (ρ++[p]) b -> MS N (S.h.set k none++[some (DO.ints l)]) (ρ++[p]) b:=fun b hb=>hb.imp id MO.mapOb.1
  have O2:Ba (MS N (S.h.set k none++[some (DO.ints l)]) (ρ++[p])) w (ρ++[p]) (MS N ((S.h.set k none++[some (DO.ints l)]).map (mapOb (NV k S.h.length))) (ρ++[p])) w (ρ++[p]):=⟨fun _ _ _ _=>rfl,fun b hb=>.inl (hM b hb),fun _ _ h=>h⟩;exact ⟨ρ++[p],⟨R1,((R.fr.out O).map fun d u=>mv d u).out O2⟩,⟨g2.upd,fun b hb=>g2.grow b (MO.mapOb.1 hb)⟩,fun _ _ _ h=>D9 h⟩
 ·cases h
end
end Go.Proofs.YtekkngkphejfcaaGreatDoor
namespace Go.Proofs.YtekkngkphejfcaaGreatDoor
open Go.RowKit
def Cp (σ:List Nat) (b k:Nat):Nat:=if k<σ.length then σ.getD k 0 else b+(k-σ.length)
def up (σ:List Nat) (b:Nat):DV -> DV
 | .ref k j=>.ref (Cp σ b k) j
 | .msl k m o n=>.msl (Cp σ b k) m o n
 | .mse k m o n=>.mse (Cp σ b k) m o n
 | .mri k i=>.mri (Cp σ b k) i
 | .mp k m i j=>.mp (Cp σ b k) m i j
 | .it k=>.it (Cp σ b k)
 | .agg m f=>.agg m (Ga m fun j=>up σ b (f j))
 | .tup m f=>.tup m (Ga m fun j=>up σ b (f j))
 | .fn g m c=>.fn g m (Ga m fun j=>up σ b (c j))
 | d=>d
def Cq (σ:List Nat) (b:Nat):Option DO -> Option DO
 | some (.cells l)=>some (.cells (l.map (up σ b)))
 | o=>o
def Cw (H:DH) (σ:List Nat) (h':DH):DH:=((List.range H.length).map fun k=>match C3 σ k with
 | some i=>Cq σ H.length (h'.getD i none)
 | none=>H.getD k none)++(h'.drop σ.length).map (Cq σ H.length)
theorem O1 {σ:List Nat} (hn:σ.Nodup) {i k:Nat} (h:σ[i]? =some k):C3 σ k=some i:=by
 induction σ generalizing i with
 | nil=>simp at h
 | cons x σ ih=>
  unfold C3;cases i with
  | zero=>
   have:x=k:=by simpa using h
   rw [zAE this]
  | succ i=>
   have h':σ[i]? =some k:=by simpa using h
   have AY:x≠k:=by
    rintro rfl;exact (zGU.1 hn).1 (zCc h')
   rw [zBP AY,ih (zGU.1 hn).2 h'];rfl
theorem Of {σ:List Nat} {b:Nat} {x:Option DO} {o:DO} (h:Cq σ b x=some o): ∃ o0,x=some o0:=by
 cases x with
 | none=>cases h
 | some o0=>exact ⟨o0,rfl⟩
section
variable {P:Program} {Γ:A6}
theorem fS {M M':Nat -> Prop} {w:World} {σ:List Nat} {b:Nat} {ρ ρ':List AN} (hM: ∀ b,M' b -> M b) (hρ: ∀ (k:Nat) (p:AN),ρ[k]? =some p -> ρ'[Cp σ b k]? =some p): ∀ (d:DV) {v:Value},AQ M w d ρ v -> AQ M' w (up σ b d) ρ' v:=by
 have low: ∀ (d:DV) {v:Value},AQ M w d [] v -> AQ M' w d [] v:=fun d v h=>h.out d (DR hM [])
 intro d
 induction d with
 | any=>intro v _;trivial
 | nils=>intro v h;exact h
 | int k n=>intro v h;exact h
 | bool b=>intro v h;exact h
 | str s=>intro v h;exact h
 | ints l=>intro v h;exact low (.ints l) h
 | bools l=>intro v h;exact low (.bools l) h
 | sl m n f _=>intro v h;exact low (.sl m n f) h
 | fp m f _=>intro v h;exact low (.fp m f) h
 | agg m f ih=>
  rintro v ⟨cs,e,hs,h⟩;exact ⟨cs,e,hs,fun j hj=>let ⟨u,h1,h2⟩:=h j hj;⟨u,h1,zIO hj (ih j h2)⟩⟩
 | tup m f ih=>
  rintro v ⟨cs,e,hs,h⟩;exact ⟨cs,e,hs,fun j hj=>let ⟨u,h1,h2⟩:=h j hj;⟨u,h1,zIO hj (ih j h2)⟩⟩
 | fn g m c ih=>
  rintro v ⟨cs,e,hs,h⟩;exact ⟨cs,e,hs,fun j hj=>let ⟨u,h1,h2⟩:=h j hj;⟨u,h1,zIO hj (ih j h2)⟩⟩
 | ref k j=>rintro v ⟨p,hp,r⟩;exact ⟨p,hρ k p hp,r⟩
 | msl k m o n=>rintro v ⟨p,cap,hp,r⟩;exact ⟨p,cap,hρ k p hp,r⟩
 | mp k m i j=>rintro v ⟨p,hp,r⟩;exact ⟨p,hρ k p hp,r⟩
 | it k=>rintro v ⟨p,hp,r⟩;exact ⟨p,hρ k p hp,r⟩
 | cst u=>intro v h;exact h
 | yl l=>intro v h;exact h
 | mse k m o n=>rintro v ⟨p,a,cap,hp,r⟩;exact ⟨p,a,cap,hρ k p hp,r⟩
 | mri k i=>rintro v ⟨p,vs,hp,r⟩;exact ⟨p,vs,hρ k p hp,r⟩
theorem dY {M M':Nat -> Prop} {w:World} {σ:List Nat} {b:Nat} {ρ ρ':List AN} (hM: ∀ b,M' b -> M b) (hρ: ∀ (k:Nat) (p:AN),ρ[Cp σ b k]? =some p -> ρ'[k]? =some p): ∀ (d:DV) {v:Value},AQ M w (up σ b d) ρ v -> AQ M' w d ρ' v:=by
 have low: ∀ (d:DV) {v:Value},AQ M w d [] v -> AQ M' w d [] v:=fun d v h=>h.out d (DR hM [])
 have Yt: ∀ {m j:Nat} {f:Nat -> DV} {u:Value},j<m -> AQ M w (Ga m f j) ρ u -> AQ M w (f j) ρ u:=fun hj h=>by rw [U1 hj] at h;exact h
 intro d
 induction d with
 | any=>intro v _;trivial
 | nils=>intro v h;exact h
 | int k n=>intro v h;exact h
 | bool b=>intro v h;exact h
 | str s=>intro v h;exact h
 | ints l=>intro v h;exact low (.ints l) h
 | bools l=>intro v h;exact low (.bools l) h
 | sl m n f _=>intro v h;exact low (.sl m n f) h
 | fp m f _=>intro v h;exact low (.fp m f) h
 | agg m f ih=>
  rintro v ⟨cs,e,hs,h⟩;exact ⟨cs,e,hs,fun j hj=>let ⟨u,h1,h2⟩:=h j hj;⟨u,h1,ih j (Yt hj h2)⟩⟩
 | tup m f ih=>
  rintro v ⟨cs,e,hs,h⟩;exact ⟨cs,e,hs,fun j hj=>let ⟨u,h1,h2⟩:=h j hj;⟨u,h1,ih j (Yt hj h2)⟩⟩
 | fn g m c ih=>
  rintro v ⟨cs,e,hs,h⟩;exact ⟨cs,e,hs,fun j hj=>let ⟨u,h1,h2⟩:=h j hj;⟨u,h1,ih j (Yt hj h2)⟩⟩
 | ref k j=>rintro v ⟨p,hp,r⟩;exact ⟨p,hρ k p hp,r⟩
 | msl k m o n=>rintro v ⟨p,cap,hp,r⟩;exact ⟨p,cap,hρ k p hp,r⟩
 | mp k m i j=>rintro v ⟨p,hp,r⟩;exact ⟨p,hρ k p hp,r⟩
 | it k=>rintro v ⟨p,hp,r⟩;exact ⟨p,hρ k p hp,r⟩
 | cst u=>intro v h;exact h
 | yl l=>intro v h;exact h
 | mse k m o n=>rintro v ⟨p,a,cap,hp,r⟩;exact ⟨p,a,cap,hρ k p hp,r⟩
 | mri k i=>rintro v ⟨p,vs,hp,r⟩;exact ⟨p,vs,hρ k p hp,r⟩
theorem qk {M M':Nat -> Prop} {w:World} {σ:List Nat} {b:Nat} {ρ ρ':List AN} {p:AN} (hM: ∀ b,M' b -> M b) (hρ: ∀ (k:Nat) (p:AN),ρ[k]? =some p -> ρ'[Cp σ b k]? =some p) {o o':DO} (ho:Cq σ b (some o)=some o') (h:DD P M w ρ p o):DD P M' w ρ' p o':=by
 cases o with
 | cells l=>
  cases ho
  show Ag w p (l.map (up σ b)).length _
  rw [zE4];refine Ag.out h rfl fun j u hj hu=>?_
  have:(l.map (up σ b)).getD j .any=up σ b (l.getD j .any):=by simp [hj]
  rw [this];exact fS hM hρ _ hu
 | ints l=>cases ho;exact Ag.out h rfl fun j u _ hu=>hu
 | bools l=>cases ho;exact Ag.out h rfl fun j u _ hu=>hu
 | arr m n f=>cases ho;exact Ag.out h rfl fun j u _ hu=>AQ.out _ (DR hM []) hu
 | iter encs=>
  cases ho;obtain ⟨gf,lb,Rd,q1,q2,q3,q4⟩:=h;exact ⟨gf,lb,Rd,q1,q2,fun b hb=>⟨fun hm=>(q3 b hb).1 (hM b hm),(q3 b hb).2⟩,q4⟩
 | mo x=>cases ho;exact h
theorem oq {M M':Nat -> Prop} {w:World} {σ:List Nat} {b:Nat} {ρ ρ':List AN} {p:AN} (hM: ∀ b,M' b -> M b) (hρ: ∀ (k:Nat) (p:AN),ρ[Cp σ b k]? =some p -> ρ'[k]? =some p) {o o':DO} (ho:Cq σ b (some o)=some o') (h:DD P M w ρ p o'):DD P M' w ρ' p o:=by
 cases o with
 | cells l=>
  cases ho;have h:Ag w p (l.map (up σ b)).length _:=h;rw [zE4] at h;refine Ag.out h rfl fun j u hj hu=>?_
  have:(l.map (up σ b)).getD j .any=up σ b (l.getD j .any):=by simp [hj]
  rw [this] at hu;exact dY hM hρ _ hu
 | ints l=>cases ho;exact Ag.out h rfl fun j u _ hu=>hu
 | bools l=>cases ho;exact Ag.out h rfl fun j u _ hu=>hu
 | arr m n f=>cases ho;exact Ag.out h rfl fun j u _ hu=>AQ.out _ (DR hM []) hu
 | iter encs=>
  cases ho;obtain ⟨gf,lb,Rd,q1,q2,q3,q4⟩:=h;exact ⟨gf,lb,Rd,q1,q2,fun b hb=>⟨fun hm=>(q3 b hb).1 (hM b hm),(q3 b hb).2⟩,q4⟩
 | mo x=>cases ho;exact h
theorem ES.embed {f:Nat} {ds:List DV} {h:DH} {d:DV} {h':DH} {ext:Bool} (Er:ES P Γ f ds h d h' ext) (σ:List Nat) (H:DH) (hn:σ.Nodup) (AP: ∀ k∈σ,k<H.length) (hl:σ.length=h.length) (Ck:h.length<=h'.length)
 (hh:(σ.map fun k=>H.getD k none)=h.map (Cq σ H.length)):ES P Γ f (ds.map (up σ H.length)) H (up σ H.length d) (Cw H σ h') ext:=by
 refine ⟨Er.1,fun N ρ w args HR CU=>?_⟩;obtain ⟨ρ0,TD⟩: ∃ ρ0,ρ0=σ.map fun k=>ρ.getD k ab:=⟨_,rfl⟩
 have S8:ρ0.length=σ.length:=by rw [TD];simp
 have FA: ∀ {i k:Nat},σ[i]? =some k -> ρ0[i]? =ρ[k]? :=fun {i k} hk=>by
  have Di:k<ρ.length:=by rw [HR.len];exact AP k (zCc hk)
  rw [TD,zBn,hk];simp [Di]
 have KF: ∀ {i:Nat},i<σ.length -> ∃ k,σ[i]? =some k/\ Cp σ H.length i=k:=fun {i} hi=>by
  refine ⟨σ[i],by simp [hi],?_⟩;unfold Cp;rw [zAE hi];simp [hi]
 have Gh: ∀ {i:Nat} {o:DO},h[i]? =some (some o) -> ∃ k o',σ[i]? =some k/\ H[k]? =some (some o')/\ Cq σ H.length (some o)=some o':=fun {i o} hi=>by
  have CK:i<σ.length:=by rw [hl];exact (zBN.1 hi).1
  obtain ⟨k,hk,_⟩:=KF CK;have e:=congrArg (·[i]?) hh;simp only [zBn,hk,hi,zCL] at e;have Bv:=AP k (zCc hk);have e:H.getD k none=Cq σ H.length (some o):=zBK e;have e2: ∃ o',Cq σ H.length (some o)=some o':=by cases o <;> exact ⟨_,rfl⟩
  obtain ⟨o',HL⟩:=e2;refine ⟨k,o',hk,?_,HL⟩;rw [HL] at e;rw [zBD Bv];rw [u8,zBD Bv] at e;exact congrArg some e
 have kq: ∀ {i k:Nat} {o':DO},σ[i]? =some k -> H[k]? =some (some o') -> ∃ o,h[i]? =some (some o)/\ Cq σ H.length (some o)=some o':=fun {i k o'} hk ho=>by
  have CK:i<h.length:=by rw [←hl];exact (zBN.1 hk).1
  have e:=congrArg (·[i]?) hh;simp only [zBn,hk,zBD CK,zCL] at e;have e:H.getD k none=Cq σ H.length h[i]:=zBK e;rw [Xb ho] at e;obtain ⟨o0,e0⟩:=Of e.symm;exact ⟨o0,by rw [zBD CK,e0],by rw [e0] at e;exact e.symm⟩
 obtain ⟨N0,GU⟩: ∃ N0:Nat -> Prop,N0=fun b=>N b∨∃ k o p,C3 σ k=none/\ H[k]? =some (some o)/\ ρ[k]? =some p/\ p.foot b:=⟨_,rfl⟩
 have Hx: ∀ b,MO h ρ0 b -> MO H ρ b:=by
  rintro b ⟨i,o,p,g1,g2,g3⟩;obtain ⟨k,o',e1,e2,_⟩:=Gh g1;exact ⟨k,o',p,e2,(FA e1).symm.trans g2,g3⟩
 have NW: ∀ b,MS N0 h ρ0 b -> MS N H ρ b:=by
  rintro b (hb | hb)
  ·rw [GU] at hb;rcases hb with hb | ⟨k,o,p,_,g1,g2,g3⟩
   ·exact .inl hb
   ·exact .inr ⟨k,o,p,g1,g2,g3⟩
  ·exact .inr (Hx b hb)
 have ms1: ∀ b,MS N H ρ b -> MS N0 h ρ0 b:=by
  rintro b (hb | ⟨k,o,p,g1,g2,g3⟩)
  ·exact .inl (by rw [GU];exact .inl hb)
  ·cases hk:C3 σ k with
   | none=>exact .inl (by rw [GU];exact .inr ⟨k,o,p,hk,g1,g2,g3⟩)
   | some i=>
    have hi:=JT hk;obtain ⟨o0,e1,_⟩:=kq hi g1;exact .inr ⟨i,o0,p,e1,(FA hi).trans g2,g3⟩
 have dn: ∀ (k:Nat) (p:AN),ρ[Cp σ H.length k]? =some p -> ρ0[k]? =some p:=fun k p hp=>by
  by_cases hk:k<σ.length
  ·obtain ⟨k',e1,e2⟩:=KF hk;rw [e2] at hp;exact (FA e1).trans hp
  ·unfold Cp at hp;rw [zBP hk] at hp;have:=(zBN.1 hp).1;rw [HR.len] at this;omega
 have foreign: ∀ {b:Nat},N0 b -> ¬ MO h ρ0 b:=by
  rintro b hb ⟨i,o,p,g1,g2,g3⟩;obtain ⟨k,o',e1,e2,_⟩:=Gh g1;have hp:=(FA e1).symm.trans g2;rw [GU] at hb;rcases hb with hb | ⟨k',o2,p2,q1,q2,q3,q4⟩
  ·exact (HR.cel k o' p b e2 hp g3).2.1 hb
  ·refine HR.dis k k' o' o2 p p2 b ?_ e2 q2 hp q3 g3 q4;rintro rfl;rw [O1 hn e1] at q1;cases q1
 have H0:BX P Γ N0 h ρ0 w:=by
  refine ⟨by rw [S8,hl],fun i o hi=>?_,fun i o p b g1 g2 g3=>?_,fun i i' o1 o2 p1 p2 b AY g1 g2 g3 g4 g5 g6=>?_,fun b hb=>HR.lt2 (NW b (.inl hb)),HR.gi⟩
  ·obtain ⟨k,o',e1,e2,e3⟩:=Gh hi;obtain ⟨p,hp,hr⟩:=HR.obj k o' e2;exact ⟨p,(FA e1).trans hp,oq NW dn e3 hr⟩
  ·obtain ⟨k,o',e1,e2,e3⟩:=Gh g1;obtain ⟨q1,q2,q3⟩:=HR.cel k o' p b e2 ((FA e1).symm.trans g2) g3;exact ⟨q1,fun hb=>foreign hb ⟨i,o,p,g1,g2,g3⟩,q3⟩
  ·obtain ⟨k,o',e1,e2,e3⟩:=Gh g1;obtain ⟨k',aX,QQ,T0,e3'⟩:=Gh g2;refine HR.dis k k' o' aX p1 p2 b ?_ e2 T0 ((FA e1).symm.trans g3) ((FA QQ).symm.trans g4) g5 g6;rintro rfl;have a1:=O1 hn e1;have a2:=O1 hn QQ;exact AY (zBK (a1.symm.trans a2))
 refine (Er.2 N0 ρ0 w args H0 ⟨by rw [←CU.1];simp,fun i hi=>?_⟩).mono ?_
 ·have:=CU.2 i (by simpa using hi);have e:(ds.map (up σ H.length)).getD i .any=up σ H.length (ds.getD i .any):=by simp [hi]
  rw [e] at this;exact dY NW dn _ this
 ·rintro e w' ⟨v,rfl,⟨⟨ρ1,g1,g2,g3,g4⟩,g5⟩⟩;have l1:ρ1.length=h'.length:=g1.len;obtain ⟨ρ',GP⟩: ∃ ρ',ρ'=ρ++ρ1.drop σ.length:=⟨_,rfl⟩
  have UW: ∀ {i k:Nat},σ[i]? =some k -> ρ1[i]? =ρ[k]? :=fun {i k} hk=>by
   have CK:i<ρ0.length:=by rw [S8];exact (zBN.1 hk).1
   have:=g4 i ρ0[i] (by simp [CK]);rw [this,←FA hk];simp [CK]
  have FK: ∀ {k:Nat},k<H.length -> ρ'[k]? =ρ[k]? :=fun {k} hk=>by rw [GP,zBq (by rw [HR.len];exact hk)]
  have Qs: ∀ (k:Nat) (p:AN),ρ1[k]? =some p -> ρ'[Cp σ H.length k]? =some p:=fun k p hp=>by
   by_cases hk:k<σ.length
   ·obtain ⟨k',e1,e2⟩:=KF hk;rw [e2,FK (AP k' (zCc e1)),←UW e1];exact hp
   ·unfold Cp;rw [zBP hk,GP,zCF (by rw [HR.len];omega),zFc,HR.len];rw [show σ.length+(H.length+(k-σ.length)-H.length)=k by omega];exact hp
  have ax:(Cw H σ h').length=H.length+(h'.length-σ.length):=by simp [Cw]
  have Gb: ∀ {k:Nat} {o':DO},(Cw H σ h')[k]? =some (some o') -> (k<H.length/\ C3 σ k=none/\ H[k]? =some (some o')/\ ρ'[k]? =ρ[k]?)∨∃ i o,h'[i]? =some (some o)/\ Cq σ H.length (some o)=some o'/\ ρ'[k]? =ρ1[i]? /\ k=Cp σ H.length i:=by
   intro k o' hk
   by_cases Bv:k<H.length
   ·unfold Cw at hk;rw [zBq (by simpa using Bv),zBn,zFr Bv] at hk;simp only [zCL,zFC] at hk;split at hk
    ·rename_i i hi;have H8:=JT hi;obtain ⟨o0,e0⟩:=Of hk;have CK:i<h'.length:=zBY (by rw [←hl];exact (zBN.1 H8).1) Ck;rw [e0] at hk;refine .inr ⟨i,o0,?_,hk,?_,?_⟩
     ·rw [zBD CK];rw [u8,zBD CK] at e0;exact congrArg some e0
     ·rw [FK Bv,UW H8]
     ·obtain ⟨k2,e1,e2⟩:=KF (zBN.1 H8).1;rw [e2];exact zBK (H8.symm.trans e1)
    ·rename_i hi;refine .inl ⟨Bv,hi,?_,FK Bv⟩;rw [zBD Bv];rw [u8,zBD Bv] at hk;exact congrArg some hk
   ·unfold Cw at hk;rw [zCF (by simp;omega),zBn,zFc] at hk;simp only [zE4,zFq] at hk;cases hx:h'[σ.length+(k-H.length)]? with
    | none=>rw [hx] at hk;cases hk
    | some x=>
     rw [hx] at hk;have hk:Cq σ H.length x=some o':=zBK hk;obtain ⟨o0,e0⟩:=Of hk;subst e0;refine .inr ⟨σ.length+(k-H.length),o0,hx,hk,?_,?_⟩
     ·rw [GP,zCF (by rw [HR.len];omega),zFc,HR.len]
     ·unfold Cp;rw [zBP (by omega)];omega
  have back: ∀ {k:Nat} {o:DO},C3 σ k=none -> H[k]? =some (some o) -> (Cw H σ h')[k]? =some (some o):=by
   intro k o hk ho;have Bv:=(zBN.1 ho).1;unfold Cw;rw [zBq (by simpa using Bv),zBn,zFr Bv];simp only [zCL,hk,Xb ho]
  have lR: ∀ b,MS N (Cw H σ h') ρ' b -> MS N0 h' ρ1 b:=by
   rintro b (hb | ⟨k,o',p,q1,q2,q3⟩)
   ·exact .inl (by rw [GU];exact .inl hb)
   ·rcases Gb q1 with ⟨a1,a2,a3,a4⟩ | ⟨i,o,a1,a2,a3,a4⟩
    ·exact .inl (by rw [GU];exact .inr ⟨k,o',p,a2,a3,a4.symm.trans q2,q3⟩)
    ·exact .inr ⟨i,o,p,a1,a3.symm.trans q2,q3⟩
  have grow: ∀ b,MO (Cw H σ h') ρ' b -> MO H ρ b∨w.heap.size<=b:=by
   rintro b ⟨k,o',p,q1,q2,q3⟩;rcases Gb q1 with ⟨a1,a2,a3,a4⟩ | ⟨i,o,a1,a2,a3,a4⟩
   ·exact .inl ⟨k,o',p,a3,a4.symm.trans q2,q3⟩
   ·exact (g3.grow b ⟨i,o,p,a1,a3.symm.trans q2,q3⟩).imp (Hx b) id
  have pl: ∀ (k:Nat) (p:AN),ρ[k]? =some p -> ρ'[k]? =some p:=fun k p hp=>by
   rw [GP,zBq (zBN.1 hp).1];exact hp
  have O:Ba (MS N H ρ) w ρ (MS N (Cw H σ h') ρ') w' ρ':=
   ⟨fun b hb hm _=>g3.upd.block b hb fun hx=>hm (.inr (Hx b hx)),fun b hb=>hb.elim (fun hb=>.inl (.inl hb)) (fun hb=>(grow b hb).imp .inr id),pl⟩
  refine ⟨v,rfl,⟨⟨ρ',⟨?_,fun k o' hk=>?_,fun k o' p b q1 q2 q3=>?_,fun k k' o1 o2 p1 p2 b AY q1 q2 q3 q4 q5 q6=>?_,fun b hb=>⟨zBY (HR.nlt b hb).1 g3.upd.size,(HR.nlt b hb).2⟩,g1.gi⟩,fS lR Qs _ g2,⟨g3.upd.mono fun b _ hb=>Hx b hb,grow⟩,pl⟩,g5⟩⟩
  ·rw [ax,GP];simp [HR.len,l1]
  ·rcases Gb hk with ⟨a1,a2,a3,a4⟩ | ⟨i,o,a1,a2,a3,a4⟩
   ·obtain ⟨p,hp,hr⟩:=HR.obj k o' a3;refine ⟨p,a4.trans hp,hr.out O g3.upd (fun b hb=>.inr (Hx b hb)) fun b _ hf hs=>?_⟩;exact foreign (by rw [GU];exact .inr ⟨k,o',p,a2,a3,hp,hf⟩) hs
   ·obtain ⟨p,hp,hr⟩:=g1.obj i o a1;exact ⟨p,a3.trans hp,qk lR Qs a2 hr⟩
  ·rcases Gb q1 with ⟨a1,a2,a3,a4⟩ | ⟨i,o,a1,a2,a3,a4⟩
   ·have hp:=a4.symm.trans q2;obtain ⟨c1,c2,c,t,z,c3⟩:=HR.cel k o' p b a3 hp q3;refine ⟨c1,c2,c,t,z,(g3.upd.block b (zBG.1 c3).1 fun hx=>?_).trans c3⟩;exact foreign (by rw [GU];exact .inr ⟨k,o',p,a2,a3,hp,q3⟩) hx
   ·obtain ⟨c1,c2,c3⟩:=g1.cel i o p b a1 (a3.symm.trans q2) q3;exact ⟨c1,fun hb=>c2 (by rw [GU];exact .inl hb),c3⟩
  ·rcases Gb q1 with ⟨a1,a2,a3,a4⟩ | ⟨i,o,a1,a2,a3,a4⟩
   ·rcases Gb q2 with ⟨c1,c2,c3,c4⟩ | ⟨i',o',c1,c2,c3,c4⟩
    ·exact HR.dis k k' o1 o2 p1 p2 b AY a3 c3 (a4.symm.trans q3) (c4.symm.trans q4) q5 q6
    ·exact (g1.cel i' o' p2 b c1 (c3.symm.trans q4) q6).2.1 (by rw [GU];exact .inr ⟨k,o1,p1,a2,a3,a4.symm.trans q3,q5⟩)
   ·rcases Gb q2 with ⟨c1,c2,c3,c4⟩ | ⟨i',o',c1,c2,c3,c4⟩
    ·exact (g1.cel i o p1 b a1 (a3.symm.trans q3) q5).2.1 (by rw [GU];exact .inr ⟨k',o2,p2,c2,c3,c4.symm.trans q4,q6⟩)
    ·refine g1.dis i i' o o' p1 p2 b ?_ a1 c1 (a3.symm.trans q3) (c3.symm.trans q4) q5 q6;rintro rfl;exact AY (a4.trans c4.symm)
def MG (σ:List Nat) (n l l':Nat):Bool:=decide σ.Nodup&&σ.all (fun k=>decide (k<n))&&decide (σ.length=l)&&decide (l<=l')
theorem ES.embedB {f:Nat} {ds:List DV} {h:DH} {d:DV} {h':DH} {ext:Bool} (Er:ES P Γ f ds h d h' ext) (σ:List Nat) (H:DH) (hb:MG σ H.length h.length h'.length=true) (hh:(σ.map fun k=>H.getD k none)=h.map (Cq σ H.length))
 {Dx:List DV} {d1:DV} {H1:DH} (e:(ds.map (up σ H.length),up σ H.length d,Cw H σ h')=(Dx,d1,H1)):ES P Γ f Dx H d1 H1 ext:=by
 simp only [MG,zBE,zCK,zBT] at hb;cases e;exact Er.embed σ H hb.1.1.1 (fun k hk=>hb.1.1.2 k hk) hb.1.2 hb.2 hh
end
end Go.Proofs.YtekkngkphejfcaaGreatDoor
namespace Go.Proofs.YtekkngkphejfcaaGreatDoor
abbrev zB2:=@List.drop_eq_getElem_cons
abbrev zE8:=@Nat.le_of_ble_eq_true
abbrev zFY:=@of_decide_eq_true
end Go.Proofs.YtekkngkphejfcaaGreatDoor
namespace Go.Proofs.YtekkngkphejfcaaGreatDoor
open Go.RowKit
section
variable {P:Program} {Γ:A6}
theorem BX.foreign {N1 N2 G:Nat -> Prop} {h:DH} {ρ:List AN} {A B:World} (H:BX P Γ N1 h ρ A) (hu:AV G A B) (hG: ∀ b,G b -> N1 b/\ Γ.ng<=b) (hN: ∀ b,N2 b -> N1 b∨A.heap.size<=b) (hb: ∀ b,N2 b -> b<B.heap.size/\ Γ.ng<=b):BX P Γ N2 h ρ B:=by
 have O:Ba (MS N1 h ρ) A ρ (MS N2 h ρ) B ρ:=⟨fun b AP hm _=>hu.block b AP fun hx=>hm (.inl (hG b hx).1),fun b hb=>hb.elim (fun h=>(hN b h).imp .inl id) (fun h=>.inl (.inr h)),fun _ _ h=>h⟩;refine ⟨H.len,fun k o hk=>?_,fun k o p b h1 h2 h3=>?_,H.dis,hb,Γ.st _ _ H.gi (hu.mono fun i _ hx=>(hG i hx).2)⟩
 ·obtain ⟨p,hp,hr⟩:=H.obj k o hk;exact ⟨p,hp,hr.out O hu (fun b hb=>.inl (hG b hb).1) fun b _ hf hs=>(H.cel k o p b hk hp hf).2.1 (hG b hs).1⟩
 ·obtain ⟨c1,c2,c,t,z,c3⟩:=H.cel k o p b h1 h2 h3;have AP:=(zBG.1 c3).1;exact ⟨c1,fun hn=>(hN b hn).elim c2 (by omega),c,t,z,(hu.block b AP fun hx=>c2 (hG b hx).1).trans c3⟩
theorem Ba.foreign {N1 N2 G:Nat -> Prop} {h:DH} {ρ:List AN} {A B:World} (hu:AV G A B) (hG: ∀ b,G b -> N1 b/\ Γ.ng<=b) (hN: ∀ b,N2 b -> N1 b∨A.heap.size<=b):Ba (MS N1 h ρ) A ρ (MS N2 h ρ) B ρ:=
 ⟨fun b AP hm _=>hu.block b AP fun hx=>hm (.inl (hG b hx).1),fun b hb=>hb.elim (fun h=>(hN b h).imp .inl id) (fun h=>.inl (.inr h)),fun _ _ h=>h⟩
def KG (fr:List DV) (ps:List Tmp) (x:List Value):List DV:=(ps.zip x).foldl (fun t q=>t.set q.1 (Fg q.2)) fr
theorem g7 {M:Nat -> Prop} {w:World} {ρ:List AN}: ∀ (l:List (Tmp×Value)) {fr:List DV} {t:Array Value},CG M w ρ fr t -> CG M w ρ (l.foldl (fun t q=>t.set q.1 (Fg q.2)) fr) (l.foldl (fun t (q:Tmp×Value)=>t.setIfInBounds q.1 q.2) t)
 | [],_,_,h=>h
 | q::l,_,_,h=>g7 l (h.set q.1 (Sq _))
def Ge (K:Nat):DV -> Bool
 | .ref k _=>decide (k<K)
 | .msl k _ _ _=>decide (k<K)
 | .mse k _ _ _=>decide (k<K)
 | .mri k _=>decide (k<K)
 | .mp k _ _ _=>decide (k<K)
 | .it k=>decide (k<K)
 | .agg m f=>(List.range m).all fun j=>Ge K (f j)
 | .tup m f=>(List.range m).all fun j=>Ge K (f j)
 | .fn _ m f=>(List.range m).all fun j=>Ge K (f j)
 | _=>true
theorem QB {α:Type} {l:List α} {K k:Nat} {x:α} (hk:k<K) (h:l[k]? =some x):(l.take K)[k]? =some x:=by rw [List.getElem?_take,zAE hk];exact h
theorem AQ.take {M:Nat -> Prop} {w:World} {K:Nat}: ∀ (d:DV) {ρ:List AN} {v:Value},Ge K d=true -> AQ M w d ρ v -> AQ M w d (ρ.take K) v:=by
 intro d
 induction d with
 | ref k j=>rintro ρ v hb ⟨p,h,e⟩;exact ⟨p,QB (zFY hb) h,e⟩
 | msl k m off n=>rintro ρ v hb ⟨p,cap,h,e⟩;exact ⟨p,cap,QB (zFY hb) h,e⟩
 | mp k m i j=>rintro ρ v hb ⟨p,h,e⟩;exact ⟨p,QB (zFY hb) h,e⟩
 | it k=>rintro ρ v hb ⟨p,h,e⟩;exact ⟨p,QB (zFY hb) h,e⟩
 | agg m f ih=>
  rintro ρ v hb ⟨cs,e,hs,h⟩;exact ⟨cs,e,hs,fun j hj=>let ⟨u,h1,h2⟩:=h j hj;⟨u,h1,ih j (zBT.1 hb j (zBc.2 hj)) h2⟩⟩
 | tup m f ih=>
  rintro ρ v hb ⟨cs,e,hs,h⟩;exact ⟨cs,e,hs,fun j hj=>let ⟨u,h1,h2⟩:=h j hj;⟨u,h1,ih j (zBT.1 hb j (zBc.2 hj)) h2⟩⟩
 | fn g m f ih=>
  rintro ρ v hb ⟨cs,e,hs,h⟩;exact ⟨cs,e,hs,fun j hj=>let ⟨u,h1,h2⟩:=h j hj;⟨u,h1,ih j (zBT.1 hb j (zBc.2 hj)) h2⟩⟩
 | yl l=>rintro ρ v _ h;exact h
 | cst u=>rintro ρ v _ h;exact h
 | mse k m off n=>rintro ρ v hb ⟨p,a,cap,h,e⟩;exact ⟨p,a,cap,QB (zFY hb) h,e⟩
 | mri k i=>rintro ρ v hb ⟨p,vs,h,e⟩;exact ⟨p,vs,QB (zFY hb) h,e⟩
 | any=>rintro ρ v _ h;trivial
 | nils=>rintro ρ v _ h;exact h
 | int k n=>rintro ρ v _ h;exact h
 | bool b=>rintro ρ v _ h;exact h
 | str s=>rintro ρ v _ h;exact h
 | ints l=>rintro ρ v _ h;exact h
 | bools l=>rintro ρ v _ h;exact h
 | sl m n f=>rintro ρ v _ h;exact h
 | fp m f=>rintro ρ v _ h;exact h
theorem CG.take {M:Nat -> Prop} {w:World} {K:Nat} {ρ:List AN} {fr:List DV} {t:Array Value} (h:CG M w ρ fr t) (hb:fr.all (Ge K)=true):CG M w (ρ.take K) fr t:=by
 refine ⟨h.1,fun i hi=>AQ.take _ ?_ (h.2 i hi)⟩;have:fr.getD i .any∈fr:=by simp [u8,hi]
 exact zBT.1 hb _ this
structure RI (K:Nat) (P:Program) (Γ:A6) (N:Nat -> Prop) (h0:DH) (ρ0:List AN) (w0:World) (G:Nat -> Prop) (W:World) (h:DH) (ρ:List AN):Prop where
 hr:BX P Γ (fun b=>N b∨G b) h ρ W
 upd:AV (MO h0 ρ0) w0 W
 grow: ∀ b,MO h ρ b -> MO h0 ρ0 b∨w0.heap.size<=b
 g: ∀ b,G b -> Γ.ng<=b/\ (MO h0 ρ0 b∨w0.heap.size<=b)
 kept:Ef K ρ0 ρ
theorem RI.stable {K:Nat} {N:Nat -> Prop} {h0:DH} {ρ0:List AN} {w0:World} (Gk:Γ.ng<=w0.heap.size) {G G':Nat -> Prop} {A B:World} {h:DH} {ρ:List AN} (R:RI K P Γ N h0 ρ0 w0 G A h ρ) (hu:AV G A B) (hg: ∀ k,G' k -> G k∨A.heap.size<=k) (hb: ∀ k,G' k -> k<B.heap.size):RI K P Γ N h0 ρ0 w0 G' B h ρ:=by
 have hs:w0.heap.size<=A.heap.size:=R.upd.size;refine ⟨R.hr.foreign hu (fun b hx=>⟨.inr hx,(R.g b hx).1⟩) (fun b hx=>?_) (fun b hx=>?_),R.upd.comp hu fun i hi hx=>(R.g i hx).2.resolve_right (by omega),R.grow,fun b hx=>?_,R.kept⟩
 ·rcases hx with hx | hx
  ·exact .inl (.inl hx)
  ·exact (hg b hx).imp .inr id
 ·rcases hx with hx | hx
  ·exact ⟨zBY (R.hr.nlt b (.inl hx)).1 hu.size,(R.hr.nlt b (.inl hx)).2⟩
  ·exact ⟨hb b hx,(hg b hx).elim (fun h=>(R.g b h).1) (fun h=>by omega)⟩
 ·rcases hg b hx with hx | hx
  ·exact R.g b hx
  ·exact ⟨by omega,.inr (by omega)⟩
theorem RI.outl {K:Nat} {N:Nat -> Prop} {h0:DH} {ρ0:List AN} {w0:World} {G:Nat -> Prop} {W:World} {h:DH} {ρ:List AN} (R:RI K P Γ N h0 ρ0 w0 G W h ρ):Ba (MS N h0 ρ0) w0 (ρ0.take K) (MS (fun b=>N b∨G b) h ρ) W ρ:=
 ⟨fun b AP hm _=>R.upd.block b AP fun hx=>hm (.inr hx),fun b hb=>by
  rcases hb with (hb | hb) | hb
  ·exact .inl (.inl hb)
  ·exact (R.g b hb).2.imp .inr id
  ·exact (R.grow b hb).imp .inr id,fun k p hk=>by
  rw [List.getElem?_take] at hk
  by_cases e:k<K
  ·rw [zAE e] at hk;exact R.kept k p e hk
  ·rw [zBP e] at hk;cases hk⟩
def Kx:Exit -> Option Code
 | .ret=>some .ret
 | .exit id=>some (.exit id)
 | _=>none
def eQ (L:Nat) (J:DH -> Prop) (Jx:Exit -> DH -> Prop) (e:Exit) (S:St):Prop:=∃ S3,BR L S S3/\ ((e= .normal/\ J S3.h)∨((Kx e).isSome=true/\ Jx e S3.h))
def qJ (P:Program) (Γ:A6) (fr:List DV) (ps:List Tmp) (assign body:Code) (L:Nat) (J:Nat -> DH -> Prop) (Jx:Exit -> DH -> Prop) (encs:List (Array Value)):Prop:=
 ∀ (l B:Nat) (Y:Be P Γ L) (i:Nat) (x:Array Value) (h:DH),encs[i]? =some x -> J i h ->
  Tr P Γ (Fence.wide.inRound l) (some B) L Y assign ⟨KG fr ps x.toList,h⟩ (Q2 (fun S' Y'=>Y'=Y/\ ∀ Y2:Be P Γ L,Tr P Γ (Fence.wide.inRound l) (some B) L Y2 body S' (stay Y2 (eQ L (J (i+1)) Jx))) (fun _ _ _=>False))
theorem jB {N:Nat -> Prop} {S:St} {ρ:List AN} {a:Act} {w:World} (R:An P Γ N S ρ a w) {ps:Array Tmp} {assign body:Code} {encs:List (Array Value)} {J:Nat -> DH -> Prop} {Jx:Exit -> DH -> Prop} {Rd:Nat -> Prop} {l KK:Nat} (EY:S.fr.all (Ge KK)=true)
 (Jy: ∀ b,Rd b -> ¬ MS N S.h ρ b/\ b<w.heap.size) (Dh:qJ P Γ S.fr ps.toList assign body KK J Jx encs)
 (G:Nat -> Prop) (i:Nat) (x:Array Value) (W:World) (hx:encs[i]? =some x) (hI: ∃ h ρ',J i h/\ RI KK P Γ N S.h ρ w G W h ρ') (hl: ∃ r,W.heap[l]? =some (.loop r)) (Cv:G l):
 assign.wpIn (Fence.wide.inRound l) 0 P (Exit.then (fun a₁ W₁=>∃ K:(Nat -> Prop) -> World -> Prop,FB K/\ AV (fun k=>¬ (G k∨Rd k)) W W₁/\ K G W₁/\ ∀ W₂,K G W₂ -> (∃ r,W₂.heap[l]? =some (.loop r)) ->
  body.wpIn (Fence.wide.inRound l) 0 P (VR (fun k=>G k∨Rd k) (fun W'=>∃ h ρ',J (i+1) h/\ RI KK P Γ N S.h ρ w G W' h ρ') (fun c W'=>∃ e,Kx e=some c/\ ∃ h ρ',Jx e h/\ RI KK P Γ N S.h ρ w G W' h ρ') W₂) a₁ W₂) (fun _ _ _=>False)) { tmps:=(ps.zip x).foldl (fun t (p,v)=>t.setIfInBounds p v) a.tmps,defers:=[] } W:=by
 obtain ⟨h,ρ1,hJ,hR⟩:=hI;have Gk:Γ.ng<=w.heap.size:=Γ.lo _ R.hr.gi
 have Xj:CG (MS (fun b=>N b∨G b) h ρ1) W ρ1 (KG S.fr ps.toList x.toList) ((ps.zip x).foldl (fun t (p,v)=>t.setIfInBounds p v) a.tmps):=by
  have:=g7 (ps.zip x).toList ((R.fr.take EY).out hR.outl);rw [Array.toList_zip] at this;rw [←Array.foldl_toList,Array.toList_zip];exact this
 have off: ∀ {G:Nat -> Prop} {W:World} {h:DH} {ρ1:List AN},RI KK P Γ N S.h ρ w G W h ρ1 -> ∀ b,MO h ρ1 b -> ¬ (G b∨Rd b):=by
  rintro G W h ρ1 hR b hm (hg | hd)
  ·obtain ⟨k,o,p,q1,q2,q3⟩:=hm;exact (hR.hr.cel k o p b q1 q2 q3).2.1 (.inr hg)
  ·rcases hR.grow b hm with hm | hm
   ·exact (Jy b hd).1 (.inr hm)
   ·have:=(Jy b hd).2;omega
 have step: ∀ {G:Nat -> Prop} {W W':World} {h h':DH} {ρ1 ρ2:List AN},RI KK P Γ N S.h ρ w G W h ρ1 -> BX P Γ (fun b=>N b∨G b) h' ρ2 W' -> BL h ρ1 W h' ρ2 W' -> Ef KK ρ1 ρ2 -> RI KK P Γ N S.h ρ w G W' h' ρ2:=by
  intro G W W' h h' ρ1 ρ2 hR C7 st hk;have hs:=hR.upd.size;exact ⟨C7,hR.upd.comp st.upd fun b hb hm=>(hR.grow b hm).resolve_right (by omega),fun b hb=>(st.grow b hb).elim (hR.grow b) fun h=>.inr (by omega),hR.g,hR.kept.trans hk⟩
 have bd:Bd (Fence.wide.inRound l) (some W.heap.size) W:=⟨fun b e=>by cases e;exact zBa _,fun l' e=>by cases e;exact hl⟩;refine zF1 (Dh l W.heap.size (Q7 P Γ KK (fun b=>N b∨G b) h ρ1 W) i x h hx hJ _ ρ1 _ W ⟨hR.hr,Xj⟩ ⟨rfl,BL.refl _ _ _,Ef.refl _ _⟩ trivial bd) ?_;rintro e a1 W1 ⟨S',ρ2,N2,Y2,h1,h2,h3,h4,_⟩;cases e with
 | normal=>
  obtain ⟨rfl,h1⟩:=h1;obtain ⟨rfl,h3,h5⟩:=h3;refine ⟨fun G' W'=>RI KK P Γ N S.h ρ w G' W' S'.h ρ2/\ CG (MS (fun b=>N b∨G' b) S'.h ρ2) W' ρ2 S'.fr a1.tmps/\ Ee W.heap.size a1.defers W'/\ W1.heap.size<=W'.heap.size/\ (∀ b,G' b -> b<W.heap.size∨W1.heap.size<=b)/\ (∀ d∈a1.defers,∀ D,d.target= .collected D -> D<W1.heap.size),?_,h3.upd.mono fun b _ hm=>off hR b hm,⟨step hR h2.hr h3 h5,h2.fr,h4,zBa _,fun b hg=>.inl (hR.hr.nlt b (.inr hg)).1,fun d hd D ht=>Ee.lt h4 hd ht⟩,?_⟩
  ·rintro G1 G2 A C ⟨q1,q2,q3,q4,q5,q6⟩ hu hg hb;have cz:=q1.stable Gk hu hg hb;refine ⟨cz,q2.out (Ba.foreign (Γ:=Γ) hu (fun b hx=>⟨.inr hx,(q1.g b hx).1⟩) fun b hx=>?_),?_,zBO q4 hu.size,fun b hx=>(hg b hx).elim (q5 b) (fun h=>.inr (by omega)),q6⟩
   ·rcases hx with hx | hx
    ·exact .inl (.inl hx)
    ·exact (hg b hx).imp .inr id
   ·have go: ∀ {ds:List Deferred},Ee W.heap.size ds A -> (∀ d∈ds,∀ D,d.target= .collected D -> D<W1.heap.size) -> Ee W.heap.size ds C:=by
     intro ds
     induction ds with
     | nil=>intros;trivial
     | cons d ds ih=>
      rintro ⟨D,r1,r2,r3,r4,r5⟩ AP;have hD:D<W1.heap.size:=AP d (by simp) D (by rw [r1]);refine ⟨D,r1,r2,(hu.block D (zBG.1 r3).1 fun hx=>?_).trans r3,r4,ih r5 fun d' Lz=>AP d' (by simp [Lz])⟩;rcases q5 D hx with h | h <;> omega
    exact go q3 q6
  ·rintro W2 ⟨q1,q2,q3,q4,q5,q6⟩ Ch;have bd2:Bd (Fence.wide.inRound l) (some W.heap.size) W2:=⟨fun b e=>by cases e;exact zBO h3.upd.size q4,fun l' e=>by cases e;exact Ch⟩;refine zF1 (h1 (Q7 P Γ KK (fun b=>N b∨G b) S'.h ρ2 W2) _ ρ2 a1 W2 ⟨q1.hr,q2⟩ ⟨rfl,BL.refl _ _ _,Ef.refl _ _⟩ q3 bd2) ?_;rintro e a3 W3 ⟨S3,ρ3,N3,Y3,r1,r2,r3,r4,_⟩
   have out: ∀ e,(Q7 P Γ KK (fun b=>N b∨G b) S'.h ρ2 W2).I N3 S3.h ρ3 W3 -> eQ KK (J (i+1)) Jx e S3 -> AV (fun k=>¬ (G k∨Rd k)) W2 W3/\ ((e= .normal/\ ∃ h ρ',J (i+1) h/\ RI KK P Γ N S.h ρ w G W3 h ρ')∨((Kx e).isSome=true/\ ∃ h ρ',Jx e h/\ RI KK P Γ N S.h ρ w G W3 h ρ')):=by
    rintro e r0 ⟨S4,BV,hJ4⟩;obtain ⟨rfl,r3,r5⟩:=r0;obtain ⟨ρ4,R4,s4,k4⟩:=BV P Γ _ ρ3 a3 W3 r2;have mf:=step q1 R4.hr (r3.trans s4) (r5.trans k4);exact ⟨r3.upd.mono fun b _ hm=>off q1 b hm,hJ4.imp (fun ⟨x,y⟩=>⟨x,S4.h,ρ4,y,mf⟩) (fun ⟨x,y⟩=>⟨x,S4.h,ρ4,y,mf⟩)⟩
   cases e with
   | normal=>
    obtain ⟨rfl,r1⟩:=r1;obtain ⟨o1,o2⟩:=out _ r3 r1;rcases o2 with ⟨_,o2⟩ | ⟨o2,_⟩
    ·exact ⟨o1,o2⟩
    ·cases o2
   | ret=>
    obtain ⟨rfl,r1⟩:=r1;obtain ⟨o1,o2⟩:=out _ r3 r1;rcases o2 with ⟨o2,_⟩ | ⟨_,o2⟩
    ·cases o2
    ·exact ⟨o1,.ret,rfl,o2⟩
   | exit id=>
    obtain ⟨rfl,r1⟩:=r1;obtain ⟨o1,o2⟩:=out _ r3 r1;rcases o2 with ⟨o2,_⟩ | ⟨_,o2⟩
    ·cases o2
    ·exact ⟨o1,.exit id,rfl,o2⟩
   | goto t=>
    obtain ⟨rfl,r1⟩:=r1;obtain ⟨o1,o2⟩:=out _ r3 r1;rcases o2 with ⟨o2,_⟩ | ⟨o2,_⟩ <;> cases o2
   | panic c=>exact r1.elim
   | outgrown=>exact r1.elim
 | ret=>exact h1.elim
 | exit id=>exact h1.elim
 | goto t=>exact h1.elim
 | panic c=>exact h1.elim
 | outgrown=>exact h1.elim
theorem Tr.range {F:Fence} (I0:F=Fence.wide∨∃ l,F=Fence.wide.inRound l) {B L:Nat} {Y:Be P Γ L} {S:St} {g:Operand} {ps:Array Tmp} {assign body:Code} {Q:QY P Γ L} {k:Nat} {encs:List (Array Value)} (J:Nat -> DH -> Prop) (Jx:Exit -> DH -> Prop)
 (hg:Ao S.fr g= .it k) (hk:S.h[k]? =some (some (.iter encs))) (D6: ∀ x∈encs,x.size=ps.size) {KK:Nat} (hL:L<=KK) (EY:S.fr.all (Ge KK)=true) (h0:J 0 (S.h.set k none))
 (Dh:qJ P Γ S.fr ps.toList assign body KK J Jx encs) (EZ: ∀ h,J encs.length h -> Q .normal ⟨S.fr,h⟩ Y) (Pm: ∀ e h,(Kx e).isSome=true -> Jx e h -> Q e ⟨S.fr,h⟩ Y):Tr P Γ F (some B) L Y (.rangeFunc g ps assign body) S Q:=fun N ρ a w R y m b=>by
 have hx:=Bx R g;rw [hg] at hx;obtain ⟨p,hp,hv⟩:=hx;obtain ⟨p',BE,gf,lb,Rd,⟨e1,e2⟩,q2,q3,q4⟩:=R.hr.obj k _ hk;have ep:p'=p:=zBK (BE.symm.trans hp);subst ep;have nI:a.eval g= .func (.func gf) #[] lb:=hv.trans e1;have Gk:Γ.ng<=w.heap.size:=Γ.lo _ R.hr.gi;have nm: ∀ b,p'.foot b -> MO S.h ρ b:=fun b hb=>⟨k,_,p',hk,hp,hb⟩
 have nn: ∃ h ρ',J 0 h/\ RI KK P Γ N S.h ρ w p'.foot w h ρ':=by
  refine ⟨S.h.set k none,ρ,h0,?_,AV.refl _ _,fun b hb=>.inl (MO.kill hb),fun b hb=>⟨(R.hr.cel k _ p' b hk hp hb).1,.inl (nm b hb)⟩,Ef.refl _ _⟩;have H1:BX P Γ N (S.h.set k none) ρ w:=R.hr.kill k
  have Lu: ∀ b,MS (fun b=>N b∨p'.foot b) (S.h.set k none) ρ b -> MS N S.h ρ b:=fun b hb=>by
   rcases hb with (hb | hb) | hb
   ·exact .inl hb
   ·exact .inr (nm b hb)
   ·exact .inr (MO.kill hb)
  refine ⟨H1.len,fun i o hi=>?_,fun i o p2 b g1 g2 g3=>?_,H1.dis,fun b hb=>hb.elim (R.hr.nlt b) fun h=>⟨q4 b h,(R.hr.cel k _ p' b hk hp h).1⟩,R.hr.gi⟩
  ·obtain ⟨AY,A5⟩:=F4 hi;obtain ⟨p2,TO,hr⟩:=R.hr.obj i o A5;exact ⟨p2,TO,hr.out (DR Lu ρ) (S:=fun _=>False) (AV.refl _ _) (fun _ h=>h.elim) fun _ _ _ h=>h⟩
  ·obtain ⟨AY,A5⟩:=F4 g1;obtain ⟨c1,c2,c3⟩:=R.hr.cel i o p2 b A5 g2 g3;exact ⟨c1,fun hb=>hb.elim c2 fun hb=>R.hr.dis i k o _ p2 p' b AY A5 hk g2 hp g3 hb,c3⟩
 have E5: ∀ i,FB (fun G W=>∃ h ρ',J i h/\ RI KK P Γ N S.h ρ w G W h ρ'):=fun i G G' A C ⟨h,ρ',h1,h2⟩ hu N9 hb=>⟨h,ρ',h1,h2.stable Gk hu N9 hb⟩
 have fin: ∀ {G:Nat -> Prop} {W:World} {h:DH} {ρ':List AN},RI KK P Γ N S.h ρ w G W h ρ' -> BX P Γ N h ρ' W:=fun {G W h ρ'} hR=>
  hR.hr.foreign (G:=fun _=>False) (AV.refl _ _) (fun _ h=>h.elim) (fun b hb=>.inl (.inl hb)) fun b hb=>hR.hr.nlt b (.inl hb)
 have fst: ∀ {G:Nat -> Prop} {W:World} {h:DH} {ρ':List AN},RI KK P Γ N S.h ρ w G W h ρ' -> CG (MS N h ρ') W ρ' S.fr a.tmps:=fun {G W h ρ'} hR=>
  ((R.fr.take EY).out hR.outl).out (DR (fun b hb=>hb.imp .inl id) ρ')
 have Fq: ∀ {G:Nat -> Prop} {W:World} {h:DH} {ρ':List AN},RI KK P Γ N S.h ρ w G W h ρ' -> BL S.h ρ w h ρ' W:=fun hR=>⟨hR.upd,hR.grow⟩
 have md: ∀ c,FB (fun G W=>∃ e,Kx e=some c/\ ∃ h ρ',Jx e h/\ RI KK P Γ N S.h ρ w G W h ρ'):=fun c G G' A C ⟨e,he,h,ρ',h1,h2⟩ hu N9 hb=>⟨e,he,h,ρ',h1,h2.stable Gk hu N9 hb⟩
 have kp: ∀ {G:Nat -> Prop} {W:World} {h:DH} {ρ':List AN},RI KK P Γ N S.h ρ w G W h ρ' -> Ef L ρ ρ':=fun hR k p hk hp=>hR.kept k p (zBY hk hL) hp
 rcases I0 with rfl | ⟨l0,rfl⟩
 ·have mk: ∀ {D:Nat} {G:Nat -> Prop} {W:World} {h:DH} {ρ':List AN},RI KK P Γ N S.h ρ w G W h ρ' -> W.heap[D]? =some (.deferred (some [])) -> w.heap.size<=D -> Ee B ({ target:=.collected D,args:=#[] }::a.defers) W:=fun {D G W h ρ'} hR hD Pj=>
   ⟨D,rfl,zBO (b.le _ rfl) Pj,hD,fun d' Lz ht=>by have:=Ee.lt m Lz ht;omega,Sz R.hr (Fq hR) m⟩
  refine qU nI e2 q2 (fun b hb=>q4 b hb) (fun b hb=>(q3 b hb).2) D6 _ _ E5 md nn (fun l G i x W hx hI hl Cv=>jB R EY q3 Dh G i x W hx hI hl Cv) ?_ ?_
  ·rintro D G W ⟨h,ρ',h1,hR⟩ hD hGD Pj;exact ⟨⟨S.fr,h⟩,ρ',N,Y,EZ h h1,⟨fin hR,fst hR⟩,Y.st y R.hr (fin hR) (Fq hR) (kp hR),mk hR hD Pj,b.step R.hr (Fq hR)⟩
  ·rintro D c G W ⟨e,he,h,ρ',h1,hR⟩ hD hGD Pj;have hq:=Pm e h (by rw [he];rfl) h1;cases e with
   | ret=>cases he;exact wpIn_ret ⟨⟨S.fr,h⟩,ρ',N,Y,hq,⟨fin hR,fst hR⟩,Y.st y R.hr (fin hR) (Fq hR) (kp hR),mk hR hD Pj,b.step R.hr (Fq hR)⟩
   | exit id=>cases he;exact wpIn_exit ⟨⟨S.fr,h⟩,ρ',N,Y,hq,⟨fin hR,fst hR⟩,Y.st y R.hr (fin hR) (Fq hR) (kp hR),mk hR hD Pj,b.step R.hr (Fq hR)⟩
   | normal=>cases he
   | goto t=>cases he
   | panic c=>cases he
   | outgrown=>cases he
 ·refine qV nI e2 (b.rd l0 rfl) q2 (fun b hb=>q4 b hb) (fun b hb=>(q3 b hb).2) D6 _ _ E5 md nn (fun l G i x W hx hI hl Cv=>jB R EY q3 Dh G i x W hx hI hl Cv) ?_ ?_
  ·rintro G W ⟨h,ρ',h1,hR⟩;exact ⟨⟨S.fr,h⟩,ρ',N,Y,EZ h h1,⟨fin hR,fst hR⟩,Y.st y R.hr (fin hR) (Fq hR) (kp hR),Sz R.hr (Fq hR) m,b.step R.hr (Fq hR)⟩
  ·rintro c G W ⟨e,he,h,ρ',h1,hR⟩;have hq:=Pm e h (by rw [he];rfl) h1;cases e with
   | ret=>cases he;exact wpIn_ret ⟨⟨S.fr,h⟩,ρ',N,Y,hq,⟨fin hR,fst hR⟩,Y.st y R.hr (fin hR) (Fq hR) (kp hR),Sz R.hr (Fq hR) m,b.step R.hr (Fq hR)⟩
   | exit id=>cases he;exact wpIn_exit ⟨⟨S.fr,h⟩,ρ',N,Y,hq,⟨fin hR,fst hR⟩,Y.st y R.hr (fin hR) (Fq hR) (kp hR),Sz R.hr (Fq hR) m,b.step R.hr (Fq hR)⟩
   | normal=>cases he
   | goto t=>cases he
   | panic c=>cases he
   | outgrown=>cases he
def Es {α σ:Type} (f:α -> σ -> Option (σ×Nat)):List α -> σ -> Option (σ×Nat)
 | [],s=>some (s,0)
 | x::l,s=>(f x s).bind fun r=>bif r.2==0 then Es f l r.1 else some r
def CC {α σ:Type} (f:α -> σ -> Option σ):List α -> σ -> Option σ
 | [],s=>some s
 | x::l,s=>(f x s).bind (CC f l)
theorem oE {α σ:Type} (f:α -> σ -> Option σ): ∀ (l:List α) (s:σ),Es (fun x s=>(f x s).map fun s'=>(s',0)) l s=(CC f l s).map fun s'=>(s',0)
 | [],s=>rfl
 | x::l,s=>by
  simp only [Es,CC];cases f x s with
  | none=>rfl
  | some s'=>exact oE f l s'
def DX (L:Nat) (ex:List Exit) (c:Nat) (h':DH) (e:Exit) (S:St):Prop:=(Exit.normal::ex)[c]? =some e/\ ∃ S3,BR L S S3/\ S3.h=h'
def GV (P:Program) (Γ:A6) (F:Fence) (B:Option Nat) (L:Nat) (N:Be P Γ L) (Q:Exit -> St -> Prop) (assign body:Code) (S:St):Prop:=
 Tr P Γ F B L N assign S (Q2 (fun S' Y'=>Y'=N/\ ∀ N2:Be P Γ L,BW P Γ F B L N2 Q [.code body] S') (fun _ _ _=>False))
theorem GV.go {F:Fence} {B:Option Nat} {L:Nat} {N:Be P Γ L} {Q:Exit -> St -> Prop} (hF:EI F P) (hm:P.follows .mixedOrders=true) {assign body:Code} {S:St} (Ay:BJ) (n:Nat) (o:B8) (live σ:List Nat) (fr:List DV) (h':DH) (vs:List Prop)
 (h:(B3 P Γ Ay n [.code assign] S o).map (Sk live σ L)=some (.at [],fr,h',vs,[],[],true)) (hv:Bo vs) (hk: ∀ N2:Be P Γ L,BW P Γ F B L N2 Q [.code body] ⟨fr,h'⟩):GV P Γ F B L N Q assign body S:=by
 obtain ⟨S',_,h1,hs⟩:=xD h;have T:=FO (F:=F) (B:=B) (L:=L) (Y:=N) (Q:=fun e S2 Y2=>e= .normal/\ Y2=N/\ ∀ N2:Be P Γ L,BW P Γ F B L N2 Q [.code body] S2) hF hm n [.code assign] S o _ _ _ _ h1 hv ⟨rfl,rfl,fun N2=>BW.le hs rfl (hk N2)⟩;refine Tr.mono (show Tr P Γ F B L N assign S _ from T) fun e S2 Y2 hq=>?_
 cases e with
 | normal=>exact hq.2
 | ret=>exact absurd hq.1 (by simp)
 | exit id=>exact absurd hq.1 (by simp)
 | goto t=>exact absurd hq.1 (by simp)
 | panic c=>exact absurd hq.1 (by simp)
 | outgrown=>exact absurd hq.1 (by simp)
theorem BW.rangeFold {F:Fence} (I0:F=Fence.wide∨∃ l,F=Fence.wide.inRound l) {B L:Nat} {Y:Be P Γ L} {Q:QY P Γ L} {S:St} {g:Operand} {ps:Array Tmp} {assign body:Code} {k:List KI} {kk:Nat} {α σ:Type} (ex:List Exit) (Jv:(ex.all fun e=>(Kx e).isSome)=true) (enc:α -> Array Value) (l:List α) (H:σ -> DH) (f:α -> σ -> Option (σ×Nat)) {s0:σ} {rE:σ×Nat} (hf:Es f l s0=some rE)
 (hg:Ao S.fr g= .it kk) (hk:S.h[kk]? =some (some (.iter (l.map enc)))) (D6: ∀ x,(enc x).size=ps.size) {K:Nat} (hL:L<=K) (EY:S.fr.all (Ge K)=true) (h0:S.h.set kk none=H s0)
 (Dh: ∀ (l B:Nat) (N:Be P Γ K) (x:α) (s:σ) (r:σ×Nat),f x s=some r -> GV P Γ (Fence.wide.inRound l) (some B) K N (DX K ex r.2 (H r.1)) assign body ⟨KG S.fr ps.toList (enc x).toList,H s⟩)
 (EZ: ∀ e,(Exit.normal::ex)[rE.2]? =some e -> Dm P Γ F (some B) L Q k e ⟨S.fr,H rE.1⟩ Y):A3 P Γ F (some B) L Y Q (.code (.rangeFunc g ps assign body)::k) S:=by
 refine Tr.range (Q:=Dm P Γ F (some B) L Q k) (KK:=K) I0 (fun i h=>∃ s,Es f (l.drop i) s=some rE/\ h=H s) (fun e h=>(Exit.normal::ex)[rE.2]? =some e/\ h=H rE.1) hg hk (fun x hx=>?_) hL EY ⟨s0,hf,h0⟩ ?_ ?_ ?_
 ·obtain ⟨y,_,rfl⟩:=zFA.1 hx;exact D6 y
 ·rintro l' B' N' i x h hx ⟨s,hs,rfl⟩;rw [zBn] at hx;cases hy:l[i]? with
  | none=>rw [hy] at hx;cases hx
  | some y=>
   rw [hy] at hx;cases hx;have AP:=(zBN.1 hy).1
   have hd:l.drop i=y::l.drop (i+1):=by
    rw [zB2 AP]
    congr 1
    exact (zBN.1 hy).2
   rw [hd] at hs;obtain ⟨r,h1,h2⟩:=pT hs;have T:=Dh l' B' N' y s r h1
   have fin: ∀ {e:Exit} {S2:St},DX K ex r.2 (H r.1) e S2 -> eQ K (fun h=>∃ s,Es f (l.drop (i+1)) s=some rE/\ h=H s) (fun e h=>(Exit.normal::ex)[rE.2]? =some e/\ h=H rE.1) e S2:=by
    rintro e S2 ⟨r1,S3,r2,r3⟩;refine ⟨S3,r2,?_⟩;cases hc:r.2 with
    | zero=>
     rw [hc] at r1 h2;cases r1;exact .inl ⟨rfl,r.1,h2,r3⟩
    | succ c=>
     rw [hc] at r1 h2;cases h2;have:e∈ex:=zCc (i:=c) r1;exact .inr ⟨zBT.1 Jv e this,by rw [hc];exact r1,r3⟩
   refine Tr.mono T fun e S2 Y2 hq=>?_
   cases e with
   | normal=>exact ⟨hq.1,fun N2=>Tr.mono (show Tr P Γ (Fence.wide.inRound l') (some B') K N2 body S2 (stay N2 (DX K ex r.2 (H r.1))) from hq.2 N2) fun e S3 Y3 h3=>⟨h3.1,fin h3.2⟩⟩
   | ret=>exact hq.elim
   | exit id=>exact hq.elim
   | goto t=>exact hq.elim
   | panic c=>exact hq.elim
   | outgrown=>exact hq.elim
 ·rintro h ⟨s,hs,rfl⟩;rw [zE4,List.drop_length] at hs;cases hs;exact EZ .normal rfl
 ·rintro e h he ⟨h1,rfl⟩;exact EZ e h1
theorem QL {F:Fence} {B:Option Nat} {L:Nat} {Y:Be P Γ L} {Q:QY P Γ L} {S:St} {id:Nat} (h:Q (.exit id) S Y): ∀ (k:List KI),Ie id k=none -> Dm P Γ F B L Q k (.exit id) S Y
 | [],_=>h
 | .blk i::k,hp=>by
  unfold Ie at hp;split at hp
  ·cases hp
  ·rename_i e
   show (if id=i then _ else _)
   rw [zBP e];exact QL h k hp
 | .code c::k,hp=>QL (k:=k) h hp
 | .lend J::k,hp=>QL (k:=k) h hp
 | .scp::k,hp=>QL (k:=k) h hp
 | .loopN m b::k,hp=>QL (k:=k) h hp
end
def KL (t:Nat):Code -> Option (Array Tmp×Code×Code)
 | .rangeFunc (.tmp t') ps a b=>if t'=t then some (ps,a,b) else KL t b
 | .seq a b=>match KL t a with
  | some r=>some r
  | none=>KL t b
 | .cond _ a b=>match KL t a with
  | some r=>some r
  | none=>KL t b
 | .block _ c=>KL t c
 | .loop c=>KL t c
 | .scope c=>KL t c
 | _=>none
def iw (f:Func) (t:Nat):Array Tmp×Code×Code:=match f.body with
 | some c=>(KL t c).getD (#[],.skip,.skip)
 | none=>(#[],.skip,.skip)
def VX (f:Func) (t:Nat):Code:=(iw f t).2.2
def uT (f:Func) (t:Nat):Code:=(iw f t).2.1
def AW (f:Func):Code:=f.body.getD .skip
def kF (id:Nat) (k:List KI):List KI:=(Ie id k).getD []
theorem Dm.exitTo {P:Program} {Γ:A6} {F:Fence} {B:Option Nat} {L:Nat} {Y:Be P Γ L} {Q:QY P Γ L} {id:Nat} {k:List KI} {S:St} (h:(Ie id k).isSome=true) (hk:A3 P Γ F B L Y Q (kF id k) S):Dm P Γ F B L Q k (.exit id) S Y:=by
 unfold kF at hk;cases hp:Ie id k with
 | none=>rw [hp] at h;cases h
 | some k'=>rw [hp] at hk;exact NF hp hk
def Mx:List KI -> Option (Operand×Array Tmp×Code×Code×List KI)
 | .code (.rangeFunc g ps a b)::k=>some (g,ps,a,b,k)
 | _=>none
theorem BW.rangeAt {P:Program} {Γ:A6} {F:Fence} (I0:F=Fence.wide∨∃ l,F=Fence.wide.inRound l) {B L:Nat} {Y:Be P Γ L} {Q:QY P Γ L} {fr:List DV} {h:DH} {K:List KI} (ex:List Exit) (Jv:(ex.all fun e=>(Kx e).isSome)=true) (g:Operand) (ps:Array Tmp) (a b:Code) (k2:List KI) {kk:Nat} {α σ:Type} (enc:α -> Array Value) (l:List α) (H:σ -> DH) (FR:α -> List DV) (f:α -> σ -> Option (σ×Nat)) {s0:σ} {rE:σ×Nat} (hf:Es f l s0=some rE)
 (hK:Mx K=some (g,ps,a,b,k2)) (hg:Ao fr g= .it kk) (hk:h[kk]? =some (some (.iter (l.map enc)))) (D6: ∀ x,(enc x).size=ps.size) (L':Nat) (hL:Nat.ble L L'=true) (GT:fr.all (Ge L')=true) (h0:h.set kk none=H s0) (EY:(fun x=>KG fr ps.toList (enc x).toList)=FR)
 (Dh: ∀ (l B:Nat) (N:Be P Γ L') (x:α) (s:σ) (r:σ×Nat),f x s=some r -> GV P Γ (Fence.wide.inRound l) (some B) L' N (DX L' ex r.2 (H r.1)) a b ⟨FR x,H s⟩)
 (EZ: ∀ e,(Exit.normal::ex)[rE.2]? =some e -> Dm P Γ F (some B) L Q k2 e ⟨fr,H rE.1⟩ Y):A3 P Γ F (some B) L Y Q K ⟨fr,h⟩:=by
 unfold Mx at hK;split at hK
 ·cases hK;subst EY;exact BW.rangeFold I0 ex Jv enc l H f hf hg hk D6 (zE8 hL) GT h0 Dh EZ
 ·cases hK
theorem BW.rangeAt0 {P:Program} {Γ:A6} {F:Fence} (I0:F=Fence.wide∨∃ l,F=Fence.wide.inRound l) {B L:Nat} {Y:Be P Γ L} {Q:QY P Γ L} {fr:List DV} {h:DH} {K:List KI} (g:Operand) (ps:Array Tmp) (a b:Code) (k2:List KI) {kk:Nat} {α σ:Type} (enc:α -> Array Value) (l:List α) (H:σ -> DH) (FR:α -> List DV) (f:α -> σ -> Option σ) {s0 sE:σ} (hf:CC f l s0=some sE)
 (hK:Mx K=some (g,ps,a,b,k2)) (hg:Ao fr g= .it kk) (hk:h[kk]? =some (some (.iter (l.map enc)))) (D6: ∀ x,(enc x).size=ps.size) (L':Nat) (hL:Nat.ble L L'=true) (GT:fr.all (Ge L')=true) (h0:h.set kk none=H s0) (EY:(fun x=>KG fr ps.toList (enc x).toList)=FR)
 (Dh: ∀ (l B:Nat) (N:Be P Γ L') (x:α) (s r:σ),f x s=some r -> GV P Γ (Fence.wide.inRound l) (some B) L' N (DX L' [] 0 (H r)) a b ⟨FR x,H s⟩)
 (EZ:A3 P Γ F (some B) L Y Q k2 ⟨fr,H sE⟩):A3 P Γ F (some B) L Y Q K ⟨fr,h⟩:=by
 refine BW.rangeAt I0 [] rfl g ps a b k2 enc l H FR (fun x s=>(f x s).map fun s'=>(s',0)) (rE:=(sE,0)) (by rw [oE,hf];rfl) hK hg hk D6 L' hL GT h0 EY (fun l' B' N' x s r hr=>?_) (fun e he=>?_)
 ·cases hx:f x s with
  | none=>rw [hx] at hr;cases hr
  | some s'=>
   rw [hx] at hr;cases hr;exact Dh l' B' N' x s s' hx
 ·cases he;exact EZ
def MC (t:Nat):List Nat -> Code -> List KI -> Option (List KI)
 | ms,.seq a b,k=>match MC t ms a (.code b::k) with
  | some r=>some r
  | none=>MC t ms b k
 | ms,.cond _ a b,k=>match MC t ms a k with
  | some r=>some r
  | none=>MC t ms b k
 | ms,.block i c,k=>MC t ms c (.blk i::k)
 | ms,.scope c,k=>MC t ms c (.scp::k)
 | m::ms,.loop b,k=>MC t ms b (.loopN m b::k)
 | _,.rangeFunc (.tmp t') ps a b,k=>if t'=t then some (.code (.rangeFunc (.tmp t') ps a b)::k) else none
 | _,_,_=>none
def HU (c:Code) (t:Nat) (ms:List Nat):List KI:=(MC t ms c []).getD []
def Ap (c:Code) (id:Nat) (ms:List Nat):List KI:=(MD id ms c []).getD []
def Dl (c:Code) (id:Nat) (ms:List Nat):List KI:=(ME id ms c []).getD []
end Go.Proofs.YtekkngkphejfcaaGreatDoor
namespace Go.Proofs.YtekkngkphejfcaaGreatDoor
open Go.RowKit
abbrev L1 (l:List DV):Nat -> DV:=fun j=>l.getD j .any
abbrev Aw {α:Type} [Inhabited α] (c:α -> List DV) (l:List α):Nat -> Nat -> DV:=fun i j=>(c (l.getD i default)).getD j .any
def AH (c:AC):List DV:=[.int .i64 c.kind,.ints c.cells,.int .i64 c.set,.int .i64 c.other,.int .i64 c.lo,.int .i64 c.hi,.ints c.runs,.int .i64 c.rule,.int .i64 c.spot]
def A8 (x:List Int):List DV:=[.ints x]
def YM (x:List Bool):List DV:=[.bools x]
def AD (q:AA):List DV:=[.int .i64 q.cells,.int .i64 q.symbols,.ints q.values,.sl 1 q.nbrs.length (Aw A8 q.nbrs),.sl 9 q.cons.length (Aw AH q.cons)]
end Go.Proofs.YtekkngkphejfcaaGreatDoor
namespace Go.Proofs.YtekkngkphejfcaaGreatDoor
abbrev zEM:=@List.drop_eq_nil_of_le
end Go.Proofs.YtekkngkphejfcaaGreatDoor
namespace Go.Proofs.YtekkngkphejfcaaGreatDoor
open Go.RowKit
structure EH (P:Program) (Γ:A6) where
 l:Nat
 Rd:Nat -> Prop
 encs:List (Array Value)
 J:Nat -> (Nat -> Prop) -> World -> Prop
 Jx:(Nat -> Prop) -> World -> Prop
 hJ: ∀ i,FB (J i)
 hJx:FB Jx
 lo: ∀ b,b<Γ.ng -> Rd b
 hy: ∀ i args G W1,encs[i]? =some args -> J i G W1 -> YieldAt Fence.wide 0 P l args W1 fun e W'=>
  AV (fun k=>¬ (G k∨Rd k)) W1 W'/\ ((e= .returned (.bool true)/\ J (i+1) G W')∨(e= .returned (.bool false)/\ Jx G W'))
def mJ (P:Program) (Γ:A6) (L:Nat) (Rd:Nat -> Prop) (J:(Nat -> Prop) -> World -> Prop) (hJ:FB J):Be P Γ L where
 I:=fun N h ρ w=>∃ G,J G w/\ (∀ b,G b -> b<w.heap.size)/\ (∀ b,MO h ρ b -> G b)/\ (∀ b,N b↔(b<w.heap.size/\ Γ.ng<=b/\ ¬ G b/\ ¬ Rd b))
 st:=by
  rintro N h ρ w h' ρ' w' ⟨G,h1,h2,h3,h4⟩ H H' st _;have hs:=st.upd.size;refine ⟨fun b=>G b∨(w.heap.size<=b/\ b<w'.heap.size),hJ G _ w w' h1 (st.upd.mono fun b _ hb=>h3 b hb) (fun k hk=>hk.imp id fun h=>h.1) (fun k hk=>hk.elim (fun h=>zBY (h2 k h) hs) fun h=>h.2),fun b hb=>hb.elim (fun h=>zBY (h2 b h) hs) fun h=>h.2,fun b hb=>?_,fun b=>?_⟩
  ·rcases st.grow b hb with h | h
   ·exact .inl (h3 b h)
   ·obtain ⟨k,o,p,q1,q2,q3⟩:=hb;obtain ⟨_,_,c,t,z,e⟩:=H'.cel k o p b q1 q2 q3;exact .inr ⟨h,(zBG.1 e).1⟩
  ·rw [h4];constructor
   ·rintro ⟨a1,a2,a3,a4⟩;exact ⟨zBY a1 hs,a2,fun hx=>hx.elim a3 fun hx=>by omega,a4⟩
   ·rintro ⟨a1,a2,a3,a4⟩;have: ¬ (w.heap.size<=b):=fun hx=>a3 (.inr ⟨hx,a1⟩)
    exact ⟨by omega,a2,fun hx=>a3 (.inl hx),a4⟩
section
variable {P:Program} {Γ:A6}
def EH.Y (C:EH P Γ) (L i:Nat):Be P Γ L:=mJ P Γ L C.Rd (C.J i) (C.hJ i)
def EH.X (C:EH P Γ) (L:Nat):Be P Γ L:=mJ P Γ L C.Rd C.Jx C.hJx
def EH.Q (C:EH P Γ) (L:Nat):QY P Γ L:=fun e _ Y=>(e= .normal∨e= .ret)/\ (Y=C.Y L C.encs.length∨Y=C.X L)
def dW:DV -> Option Value
 | .int k n=>some (.int k n)
 | .bool b=>some (.bool b)
 | _=>none
theorem zDF {M:Nat -> Prop} {w:World} {ρ:List AN} {d:DV} {v u:Value} (h:dW d=some v) (hr:AQ M w d ρ u):u=v:=by
 cases d <;> simp only [dW,zFC] at h
 all_goals first | (subst h;exact hr) | (cases h)
def WZ:List DV -> Option (List Value)
 | []=>some []
 | d::ds=>match dW d,WZ ds with
  | some v,some vs=>some (v::vs)
  | _,_=>none
theorem lY {M:Nat -> Prop} {w:World} {ρ:List AN} {f:Operand -> Value} {g:Operand -> DV} (hr: ∀ x,AQ M w (g x) ρ (f x)): ∀ {l:List Operand} {vs:List Value},WZ (l.map g)=some vs -> l.map f=vs
 | [],vs,h=>by cases h;rfl
 | x::l,vs,h=>by
  simp only [zFa,WZ] at h;split at h
  ·rename_i v Bz h1 h2;cases h;rw [zFa,zDF h1 (hr x),lY hr h2]
  ·cases h
def Ql (P:Program) (Γ:A6) (ops:Array Oper) (p:Nat) (S:St) (A0:B8):Option (List Value×Nat×St×St×List Prop):=match E7 P Γ ops (ops.toList.take p) S A0 with
 | none=>none
 | some (S1,vs,NO)=>match ops[p]? with
  | none=>none
  | some o=>match Md ops S1 o with
   | some true=>match o.op with
    | .call c=>match c.callee with
     | .value f=>match Ao S1.fr f with
      | .yl l=>match WZ (c.args.toList.map (Ao S1.fr)) with
       | none=>none
       | some xs=>match E7 P Γ ops (ops.toList.drop (p+1)) ⟨FG S1.fr o.dst (.bool true),S1.h⟩ NO with
        | none=>none
        | some (ST,vT,Hu)=>match E7 P Γ ops (ops.toList.drop (p+1)) ⟨FG S1.fr o.dst (.bool false),S1.h⟩ Hu with
         | none=>none
         | some (SF,vF,_)=>some (xs,l,ST,SF,vs++(vT++vF))
      | _=>none
     | _=>none
    | _=>none
   | _=>none
end
section
variable {P:Program} {Γ:A6} {N:Nat -> Prop} {S:St} {ρ:List AN} {a:Act} {w:World} {F:Fence}
theorem dJ (hF:EI F P) {ops:Array Oper} (Av:EV ops=true) {Q:Exit -> Act -> World -> Prop} {GL:List Oper}: ∀ (l:List Oper) (_: ∀ o∈l,o∈ops) {S:St} {ρ:List AN} {a:Act} {w:World} {A0:B8} {S':St} {vs:List Prop} {Cd:B8},
 An P Γ N S ρ a w -> E7 P Γ ops l S A0=some (S',vs,Cd) -> Bo vs ->
 (∀ ρ' a' w',An P Γ N S' ρ' a' w' -> Ew S.h ρ w S'.h ρ' w' -> a'.defers=a.defers -> wpListIn F 0 P ops Q GL a' w') -> wpListIn F 0 P ops Q (l++GL) a w
 | [],_,S,ρ,a,w,A0,S',vs,Cd,R,h,_,hQ=>by
  cases h;exact hQ ρ a w R (Ew.refl _ _ _) rfl
 | o::rest,hl,S,ρ,a,w,A0,S',vs,Cd,R,h,hv,hQ=>by
  have hd: ∀ c,o.op≠.defer c:=by
   obtain ⟨j,hj,e⟩:=Array.getElem_of_mem (hl o (by simp));exact Ii Av (j:=j) (by rw [zE9 hj,e])
  have Ck: ∀ o∈rest,o∈ops:=fun o ho=>hl o (by simp [ho])
  have Dv: ∀ v,(a.put o.dst v).defers=a.defers:=fun v=>by cases ho:o.dst <;> simp [Act.put]
  simp only [E7] at h;rw [List.cons_append];unfold wpListIn;split at h
  ·split at h
   ·cases h
   ·rename_i S1 C1 ext1 NO h1;split at h
    ·cases h
    ·rename_i S2 FW Hu h2;cases h;obtain ⟨Bn,CT⟩:=DM.1 hv;exact d5 hF R hd h1 Bn fun ρ' a' w' R' st Ea _=>dJ hF Av rest Ck R' h2 CT fun ρ'' Gw CX GW E2 Iu=>hQ ρ'' Gw CX GW (st.trans E2) (Iu.trans Ea)
  ·split at h
   ·cases h
   ·rename_i S1 C1 UF h1;split at h
    ·cases h
    ·rename_i S2 FW Hu h2;cases h;obtain ⟨Bn,CT⟩:=DM.1 hv;obtain ⟨e1,hs⟩:=V7 R h1 Bn
     have go: ∀ v,An P Γ N S1 ρ (a.put o.dst v) w -> wpListIn F 0 P ops Q (rest++GL) (a.put o.dst v) w:=fun v R'=>
      dJ hF Av rest Ck R' h2 CT fun ρ'' Gw CX GW E2 Iu=>hQ ρ'' Gw CX GW (by rw [←e1];exact E2) (Iu.trans (Dv v))
     rcases hs with ⟨hw,v,g1,g2⟩ | ⟨hw,g2⟩
     ·rw [zAE hw];refine ⟨fun f _=>hF.fn f,?_⟩;rw [zF9 _ _ _ hd,g1 w (Keep.ofExt (A4.refl w))];exact go v g2
     ·rw [zBP (by rw [hw];exact zF7)];exact ⟨fun f _=>hF.fn f,go undef g2⟩
theorem tq {l:Nat} {ρ':Operand -> Value} {o:Oper} {c:Call} {f:Operand} {vs:List Value} (ho:o.op= .call c) (hc:c.callee= .value f) (hf:ρ' f= .func (.yield l) #[] #[]) (hv:c.args.toList.map ρ'=vs):(execOp ρ' o).run P w=(Instr.yield l vs.toArray).run P w:=by
 unfold execOp;rw [ho]
 show ((resolve ρ' c o.type)>>=fun d=>invoke d.target d.args).run P w=_
 unfold resolve;rw [hc];simp only [Deferred.ofValue,hf]
 have e: #[]++Array.map ρ' c.args=vs.toArray:=by
  rw [←hv];apply Array.ext';simp
 have he:((pure { target:=.fn (.yield l) #[],args:=#[]++Array.map ρ' c.args }:Sem Deferred)>>=fun d=>invoke d.target d.args).run P w=(Instr.yield l (#[]++Array.map ρ' c.args)).run P w:=rfl;rw [he,e]
theorem Tr.yield {L:Nat} {C:EH P Γ} {i:Nat} {Q:QY P Γ L} (hF:EI Fence.wide P) {id:Nat} {ops:Array Oper} {p:Nat} {A0:B8} {x:Array Value} {ST SF:St} {vs:List Prop} (Av:EV ops=true)
 (h:Ql P Γ ops p S A0=some (x.toList,C.l,ST,SF,vs)) (hv:Bo vs) (hx:C.encs[i]? =some x) (hT:Q .normal ST (C.Y L (i+1))) (hE:Q .normal SF (C.X L)):Tr P Γ Fence.wide none L (C.Y L i) (.region id ops false) S Q:=fun N ρ a w R y m b=>by
 unfold Ql at h;split at h
 ·cases h
 rename_i S1 C1 NO h1;split at h
 ·cases h
 rename_i o ho;split at h
 ·rename_i hw;split at h
  ·rename_i c hop;split at h
   ·rename_i f hc;split at h
    ·rename_i l hl;split at h
     ·cases h
     rename_i xs bk;split at h
     ·cases h
     rename_i ST' vT Hu h2;split at h
     ·cases h
     rename_i SF' vF PM h3;cases h;obtain ⟨Bn,Ct⟩:=DM.1 hv;obtain ⟨zd,ze⟩:=DM.1 Ct;have hp:p<ops.toList.length:=by simpa using (zBG.1 ho).1
     have zl:ops.toList=ops.toList.take p++o::ops.toList.drop (p+1):=by
      have e:ops.toList[p]=o:=by
       have:=(zBG.1 ho).2;simpa using this
      rw [←e,←zB2 hp,List.take_append_drop]
     have CA: ∀ o'∈ops.toList,o'∈ops:=fun o' h=>by simpa using h
     have hd: ∀ c,o.op≠.defer c:=Ii Av ho;refine wpIn_region_list ?_;rw [zl];refine dJ hF Av _ (fun o' HL=>CA o' (List.mem_of_mem_take HL)) R h1 Bn fun ρ1 a1 w1 R1 Ok zBw=>?_
     obtain ⟨G,y1,y2,y3,y4⟩:=(C.Y L i).st y R.hr R1.hr Ok.st (fun k p _ hp=>Ok.pl k p hp);obtain ⟨fn,tmps,pk,body,hy,hR⟩:=C.hy i x G w1 hx y1;unfold wpListIn;rw [zAE (LF R1 hw)]
     have hfv:a1.eval f= .func (.yield C.l) #[] #[]:=by
      have hr:=Bx R1 f;rw [hl] at hr;exact hr
     have hav:c.args.toList.map a1.eval=x.toList:=lY (f:=a1.eval) (g:=Ao S1.fr) (fun x=>Bx R1 x) bk;refine ⟨fun f _=>hF.fn f,?_⟩;rw [zF9 _ _ _ hd,tq hop hc hfv hav,hy];refine ⟨fun hx=>(by cases hx),hR.mono ?_⟩;have AR:a1.defers= []:=zBw.trans m;rintro e W' ⟨hu,hj⟩;have hs:=hu.size;have Bc:AV N w1 W':=hu.mono fun bb AP hn=>(y4 bb).2 ⟨AP,zGm fun hx=>hn (.inr (C.lo bb hx)),fun hx=>hn (.inl hx),fun hx=>hn (.inr hx)⟩
     have nr: ∀ bb,N bb -> N bb/\ Γ.ng<=bb:=fun bb hb=>⟨hb,((y4 bb).1 hb).2.1⟩
     have nl: ∀ bb,(bb<W'.heap.size/\ Γ.ng<=bb/\ ¬ G bb/\ ¬ C.Rd bb) -> N bb∨w1.heap.size<=bb:=fun bb ⟨q1,q2,q3,q4⟩=>by
      rcases zFQ bb w1.heap.size with h | h
      ·exact .inl ((y4 bb).2 ⟨h,q2,q3,q4⟩)
      ·exact .inr h
     have H':BX P Γ (fun bb=>bb<W'.heap.size/\ Γ.ng<=bb/\ ¬ G bb/\ ¬ C.Rd bb) S1.h ρ1 W':=R1.hr.foreign Bc nr nl fun bb ⟨q1,q2,_⟩=>⟨q1,q2⟩
     have DC:An P Γ (fun bb=>bb<W'.heap.size/\ Γ.ng<=bb/\ ¬ G bb/\ ¬ C.Rd bb) S1 ρ1 a1 W':=⟨H',R1.fr.out (Ba.foreign (Γ:=Γ) Bc nr nl)⟩;have Dv: ∀ v,(a1.put o.dst v).defers=a1.defers:=fun v=>by cases ho:o.dst <;> simp [Act.put]
     rcases hj with ⟨rfl,hj⟩ | ⟨rfl,hj⟩
     ·have R':=JP DC o.dst (d:=.bool true) (v:=.bool true) rfl;refine L8 hF Av _ (fun o' HL=>CA o' (List.mem_of_mem_drop HL)) R' h2 zd fun ρ2 a2 w2 R2 Q8 ck=>?_
      refine ⟨ST,ρ2,_,C.Y L (i+1),hT,R2,(C.Y L (i+1)).st ⟨G,hj,fun bb hb=>zBY (y2 bb hb) hs,y3,fun bb=>Iff.rfl⟩ R'.hr R2.hr Q8.st (fun k p _ hp=>Q8.pl k p hp),?_,Bd.none⟩
      show a2.defers= []
      rw [ck,Dv];exact AR
     ·have R':=JP DC o.dst (d:=.bool false) (v:=.bool false) rfl;refine L8 hF Av _ (fun o' HL=>CA o' (List.mem_of_mem_drop HL)) R' h3 ze fun ρ2 a2 w2 R2 Q8 ck=>?_
      refine ⟨SF,ρ2,_,C.X L,hE,R2,(C.X L).st ⟨G,hj,fun bb hb=>zBY (y2 bb hb) hs,y3,fun bb=>Iff.rfl⟩ R'.hr R2.hr Q8.st (fun k p _ hp=>Q8.pl k p hp),?_,Bd.none⟩
      show a2.defers= []
      rw [ck,Dv];exact AR
    ·cases h
   ·cases h
  ·cases h
 ·cases h
end
theorem oX {P:Program} {f:Nat} {fn:Func} (hf:P.funcs[f]? =some fn) (hb:fn.body.isSome=true) (hn:(fn.name== "runtime.NumGoroutine")=false) (args:Array Value) (W:World):(callFunc f args).run P W= .ok (.enter f args) W:=by
 have Px: ¬ fn.name= "runtime.NumGoroutine" :=by simpa using hn
 have C9: ¬ fn.body=none:=by intro e;rw [e] at hb;cases hb
 simp [callFunc,go_sem,hf,Px,C9]
theorem ES.iterN {P:Program} {Γ:A6} {f gf m:Nat} {fn:Func} {ds:List DV} {c:Nat -> DV} {h0:DH} {encs:List (Array Value)} (Er:ES P Γ f ds [] (.fn gf m c) h0 true) (Fl:ds.all HF=true)
 (hf:P.funcs[gf]? =some fn) (hb:fn.body.isSome=true) (hn:(fn.name== "runtime.NumGoroutine")=false) (XE:fn.results= #[])
 (body: ∀ C:EH P Γ,C.encs=encs -> A3 P Γ Fence.wide none h0.length (C.Y h0.length 0) (C.Q h0.length) [.code (AW fn)] ⟨.yl C.l::(List.range m).map c++List.replicate (fn.ntmps-(m+1)) .any,h0⟩) (h:DH):ES P Γ f ds h (.it h.length) (h++[some (.iter encs)]) true:=by
 refine ⟨Er.1,fun N ρ w args HR CU=>?_⟩;refine (Er.2 (MS N h ρ) [] w args (Po (fun b hb=>HR.lt2 hb) HR.gi) ⟨CU.1,fun i hi=>?_⟩).mono ?_
 ·have hx:=PO (zBT.1 Fl (ds.getD i .any) (by simp [hi]));exact AQ.out _ (DR (fun b hb=>Od.1 hb) []) (hx _ _ _ _ (CU.2 i hi))
 ·rintro e w' ⟨v,rfl,⟨⟨ρ',g1,g2,g3,g4⟩,g5⟩⟩;have hE:=g5 rfl;obtain ⟨lb,hv,hl,XL⟩:=g2;have H6: ∀ b,MO h0 ρ' b -> w.heap.size<=b:=fun b hb=>(g3.grow b hb).resolve_left fun ⟨k,o',p',q1,_⟩=>by simp at q1
  have DS: ∀ b,MO h0 ρ' b -> Γ.ng<=b/\ ¬ MS N h ρ b/\ EG w' b:=fun b ⟨k,o,q,q1,q2,q3⟩=>g1.cel k o q b q1 q2 q3
  have Gk:Γ.ng<=w.heap.size:=Γ.lo _ HR.gi;have A9:=hE.size
  have AP: ∀ b,MO h0 ρ' b -> b<w'.heap.size:=fun b hb=>by
   obtain ⟨_,_,c,t,z,h⟩:=DS b hb;exact (zBG.1 h).1
  have lo: ∀ b,b<Γ.ng -> b<w'.heap.size/\ ¬ MS (MS N h ρ) h0 ρ' b:=fun b hb=>⟨zBY hb (zBO Gk A9),fun hx=>by
   rcases hx with hx | hx
   ·have:=(HR.lt2 hx).2;omega
   ·have:=(DS b hx).1;omega⟩
  let p:AN:=⟨0,0,0,v,fun b=>MO h0 ρ' b⟩
  have hp: ∀ b,p.foot b -> w.heap.size<=b/\ EG w' b:=fun b hb=>⟨H6 b hb,(DS b hb).2.2⟩
  refine ⟨v,rfl,⟨⟨ρ++[p],HR.snoc hE hp ?_,⟨p,by rw [←HR.len];simp,rfl⟩,BL.snoc HR hE fun b hb=>(hp b hb).1,fun _ _ h=>D9 h⟩,g5⟩⟩;refine ⟨gf,lb,fun b=>b<w'.heap.size/\ ¬ MS (MS N h ρ) h0 ρ' b,⟨hv,fun args W=>oX hf hb hn args W⟩,?_,fun b hb=>⟨fun hm=>?_,hb.1⟩,AP⟩
  ·intro l J Jx G W hJ hJx hU hG dE hY h0J
   let C:EH P Γ:=⟨l,fun b=>b<w'.heap.size/\ ¬ MS (MS N h ρ) h0 ρ' b,encs,J,Jx,hJ,hJx,lo,hY⟩
   have T:=body C rfl;cases hc:fn.body with
   | none=>rw [hc] at hb;cases hb
   | some code=>
   have eb:AW fn=code:=by unfold AW;rw [hc];rfl
   rw [eb] at T;refine callsIn_of_wp hf hc trivial ?_ rfl
   have nk: ∀ b,(b<W.heap.size/\ Γ.ng<=b/\ ¬ G b/\ ¬ (b<w'.heap.size/\ ¬ MS (MS N h ρ) h0 ρ' b)) -> MS N h ρ b∨w'.heap.size<=b:=fun b ⟨_,_,q3,q4⟩=>by
    rcases zFQ b w'.heap.size with hx | hx
    ·by_cases hm:MS (MS N h ρ) h0 ρ' b
     ·rcases hm with hm | hm
      ·exact .inl hm
      ·exact absurd (hG b hm) q3
     ·exact absurd ⟨hx,hm⟩ q4
    ·exact .inr hx
   have hu:AV (fun b=>MS N h ρ b) w' W:=hU.mono fun b AP hx=>by
    by_cases hm:MS (MS N h ρ) h0 ρ' b
    ·rcases hm with hm | hm
     ·exact hm
     ·exact absurd (.inl hm) hx
    ·exact absurd (.inr ⟨AP,hm⟩) hx
   have np: ∀ b,MS N h ρ b -> MS N h ρ b/\ Γ.ng<=b:=fun b hb=>⟨hb,(HR.lt2 hb).2⟩
   have HW:BX P Γ (fun b=>b<W.heap.size/\ Γ.ng<=b/\ ¬ G b/\ ¬ (b<w'.heap.size/\ ¬ MS (MS N h ρ) h0 ρ' b)) h0 ρ' W:=g1.foreign hu np nk fun b hb=>⟨hb.1,hb.2.1⟩
   have frc:CG (MS (MS N h ρ) h0 ρ') w' ρ' ((List.range m).map c) lb:=⟨by simp [hl],fun j hj=>by
    have BI:j<m:=by simpa using hj
    obtain ⟨u,q1,q2⟩:=XL j BI;have e1:((List.range m).map c).getD j .any=c j:=by simp [BI]
    have e2:lb.getD j undef=u:=by rw [zFK,q1];rfl
    rw [e1,e2];exact q2⟩
   have frW:=frc.out (Ba.foreign (Γ:=Γ) hu np nk)
   have fr:CG (MS (fun b=>b<W.heap.size/\ Γ.ng<=b/\ ¬ G b/\ ¬ (b<w'.heap.size/\ ¬ MS (MS N h ρ) h0 ρ' b)) h0 ρ') W ρ' (.yl l::(List.range m).map c++List.replicate (fn.ntmps-(m+1)) .any) (#[.func (.yield l) #[] #[]]++lb++Array.replicate (fn.ntmps-(#[Value.func (.yield l) #[] #[]]++lb).size) undef):=by
    have e3:fn.ntmps-(#[Value.func (.yield l) #[] #[]]++lb).size=fn.ntmps-(m+1):=by simp [hl,Nat.add_comm]
    rw [e3];refine CG.append ?_ (CG.anys _ _ _ _);have:DV.yl l::(List.range m).map c= [DV.yl l]++(List.range m).map c:=rfl;rw [this]
    exact CG.append ⟨rfl,fun j hj=>by
     have:j=0:=by simpa using hj
     subst this;rfl⟩ frW
   refine zF1 ((show Tr P Γ Fence.wide none h0.length (C.Y h0.length 0) code _ (Dm P Γ Fence.wide none h0.length (C.Q h0.length) []) from T) _ ρ' _ W ⟨HW,fr⟩ ⟨G,h0J,dE,fun b hb=>hG b hb,fun b=>Iff.rfl⟩ rfl Bd.none) ?_;rintro e a' W' ⟨S',ρ2,N',Y',q1,q2,q3,q4,q5⟩
   have fin:(Y'=C.Y h0.length C.encs.length∨Y'=C.X h0.length) -> (∃ G',J encs.length G' W')∨∃ G',Jx G' W':=by
    rintro (rfl | rfl)
    ·obtain ⟨G',k1,_⟩:=q3;exact .inl ⟨G',k1⟩
    ·obtain ⟨G',k1,_⟩:=q3;exact .inr ⟨G',k1⟩
   cases e with
   | normal=>exact bodyPost_end (results_none XE _ _ _) q4 ⟨⟨_,rfl⟩,fin q1.2⟩
   | ret=>exact bodyPost_ret (results_none XE _ _ _) q4 ⟨⟨_,rfl⟩,fin q1.2⟩
   | exit id=>exact absurd q1.1 (by simp)
   | goto t=>exact absurd q1.1 (by simp)
   | panic ch=>exact q1.elim
   | outgrown=>exact q1.elim
  ·rcases hm with hm | hm
   ·exact hb.2 (.inl (.inl hm))
   ·rcases MO.snoc HR hm with hm | hm
    ·exact hb.2 (.inl (.inr hm))
    ·exact hb.2 (.inr hm)
section
variable {P:Program} {Γ:A6}
def Rn:List KI -> Option (Array Oper×List KI)
 | .code (.region _ ops false)::k=>some (ops,k)
 | _=>none
def aQ (live σ:List Nat) (L:Nat) (r:List Value×Nat×St×St×List Prop):List Value×Nat×List DV×DH×List DV×DH×List Prop×Bool:=
 (r.1,r.2.1,(Proofs.YtekkngkphejfcaaGreatDoor.comp live σ r.2.2.1).fr,(Proofs.YtekkngkphejfcaaGreatDoor.comp live σ r.2.2.1).h,(Proofs.YtekkngkphejfcaaGreatDoor.comp live σ r.2.2.2.1).fr,(Proofs.YtekkngkphejfcaaGreatDoor.comp live σ r.2.2.2.1).h,r.2.2.2.2,KE σ L r.2.2.1.h.length&&KE σ L r.2.2.2.1.h.length)
theorem A3.yieldAt {L:Nat} {C:EH P Γ} {i:Nat} {Q:QY P Γ L} {S:St} {K k:List KI} {ops:Array Oper} (hF:EI Fence.wide P) (hK:Rn K=some (ops,k)) (Av:EV ops=true) (p:Nat) (A0:B8) {x:Array Value} (live σ:List Nat) (QH:List DV) (hT:DH) (QJ:List DV) (hE:DH) (vs:List Prop)
 (h:(Ql P Γ ops p S A0).map (aQ live σ L)=some (x.toList,C.l,QH,hT,QJ,hE,vs,true)) (hv:Bo vs) (hx:C.encs[i]? =some x) (hc:Ij k=true) (cX:A3 P Γ Fence.wide none L (C.Y L (i+1)) Q k ⟨QH,hT⟩) (cY:A3 P Γ Fence.wide none L (C.X L) Q k ⟨QJ,hE⟩):A3 P Γ Fence.wide none L (C.Y L i) Q K S:=by
 unfold Rn at hK;split at hK
 ·rename_i id xL k';cases hK;cases hr:Ql P Γ ops p S A0 with
  | none=>rw [hr] at h;cases h
  | some r=>
   obtain ⟨xs,l,ST,SF,C1⟩:=r;rw [hr] at h;simp only [zCL,aQ,zFC,zFg,zBE] at h;obtain ⟨rfl,rfl,rfl,rfl,rfl,rfl,rfl,s1,s2⟩:=h;exact Tr.yield hF Av hr hv hx (BW.le (BR.comp live σ ST s1) hc cX) (BW.le (BR.comp live σ SF s2) hc cY)
 ·cases hK
theorem lZ {α β:Type} {o:Option α} {f:α -> β} {r:β} (h:o.map f=some r): ∃ a,o=some a/\ r=f a:=by
 cases o with
 | none=>cases h
 | some a=>cases h;exact ⟨a,rfl,rfl⟩
theorem om {α β:Type} {l:List β} {i:Nat} {f:α -> β} {x:α} {r:List α} (hd:l.drop i=(x::r).map f):l[i]? =some (f x)/\ i+1<=l.length/\ l.drop (i+1)=r.map f:=by
 have AP:i<l.length:=by
  rcases zFQ i l.length with h | h
  ·exact h
  ·rw [zEM h] at hd;cases hd
 rw [zB2 AP] at hd;injection hd with h1 h2
 exact ⟨by rw [zBD AP,h1],AP,h2⟩
theorem dX {α β:Type} {l:List β} {i:Nat} {f:α -> β} (hi:i<=l.length) (hd:l.drop i=([]:List α).map f):i=l.length:=by
 have:=congrArg List.length hd;simp at this;omega
end
def B7 (x:Int):Array Value:=#[.int .i64 x]
def ON (x:Int×Int):Array Value:=#[.int .i64 x.1,.int .i64 x.2]
end Go.Proofs.YtekkngkphejfcaaGreatDoor
namespace Go.Proofs.YtekkngkphejfcaaGreatDoor
abbrev zFZ:=@List.contains_iff_mem
end Go.Proofs.YtekkngkphejfcaaGreatDoor
namespace Go.Proofs.YtekkngkphejfcaaGreatDoor
open Go.RowKit
def IR:DV -> Bool
 | .ints _=>false
 | .bools _=>false
 | .sl .. =>false
 | .fp .. =>false
 | .agg m f=>(List.range m).all fun j=>IR (f j)
 | .tup m f=>(List.range m).all fun j=>IR (f j)
 | .fn _ m f=>(List.range m).all fun j=>IR (f j)
 | _=>true
def RC:Option DO -> Bool
 | none=>true
 | some (.cells l)=>l.all IR
 | some (.ints _)=>true
 | some (.bools _)=>true
 | some (.mo _)=>true
 | _=>false
def MOf (H:DH) (σ:List Nat) (ρ:List AN) (b:Nat):Prop:=∃ (k:Nat) (o:DO) (p:AN),k∈σ/\ H[k]? =some (some o)/\ ρ[k]? =some p/\ p.foot b
def K5 (H:DH) (σ:List Nat) (d d0:DV):Prop:=∀ (P:Program) (Γ:A6) (N:Nat -> Prop) (ρ:List AN) (w:World) (v:Value),BX P Γ N H ρ w -> AQ (MS N H ρ) w d ρ v -> AQ (MOf H σ ρ) w d0 [] v
theorem gv {M M':Nat -> Prop} {w:World} {σ:List Nat} {b:Nat} {ρ ρ':List AN} (hρ: ∀ (k:Nat) (p:AN),ρ[k]? =some p -> ρ'[Cp σ b k]? =some p): ∀ (d:DV) {v:Value},IR d=true -> AQ M w d ρ v -> AQ M' w (up σ b d) ρ' v:=by
 intro d
 induction d with
 | any=>intro v _ _;trivial
 | nils=>intro v _ h;exact h
 | int k n=>intro v _ h;exact h
 | bool b=>intro v _ h;exact h
 | str s=>intro v _ h;exact h
 | ints l=>intro v hs h;cases hs
 | bools l=>intro v hs h;cases hs
 | sl m n f _=>intro v hs h;cases hs
 | fp m f _=>intro v hs h;cases hs
 | agg m f ih=>
  rintro v hs ⟨cs,e,hz,h⟩;simp only [IR,zBT,zBc] at hs;exact ⟨cs,e,hz,fun j hj=>let ⟨u,h1,h2⟩:=h j hj;⟨u,h1,zIO hj (ih j (hs j hj) h2)⟩⟩
 | tup m f ih=>
  rintro v hs ⟨cs,e,hz,h⟩;simp only [IR,zBT,zBc] at hs;exact ⟨cs,e,hz,fun j hj=>let ⟨u,h1,h2⟩:=h j hj;⟨u,h1,zIO hj (ih j (hs j hj) h2)⟩⟩
 | fn g m c ih=>
  rintro v hs ⟨cs,e,hz,h⟩;simp only [IR,zBT,zBc] at hs;exact ⟨cs,e,hz,fun j hj=>let ⟨u,h1,h2⟩:=h j hj;⟨u,h1,zIO hj (ih j (hs j hj) h2)⟩⟩
 | ref k j=>rintro v _ ⟨p,hp,r⟩;exact ⟨p,hρ k p hp,r⟩
 | msl k m o n=>rintro v _ ⟨p,cap,hp,r⟩;exact ⟨p,cap,hρ k p hp,r⟩
 | mp k m i j=>rintro v _ ⟨p,hp,r⟩;exact ⟨p,hρ k p hp,r⟩
 | it k=>rintro v _ ⟨p,hp,r⟩;exact ⟨p,hρ k p hp,r⟩
 | cst u=>intro v _ h;exact h
 | yl l=>intro v _ h;exact h
 | mse k m o n=>rintro v _ ⟨p,a,cap,hp,r⟩;exact ⟨p,a,cap,hρ k p hp,r⟩
 | mri k i=>rintro v _ ⟨p,vs,hp,r⟩;exact ⟨p,vs,hρ k p hp,r⟩
theorem rY {P:Program} {M M':Nat -> Prop} {w:World} {σ:List Nat} {b:Nat} {ρ ρ':List AN} {p:AN} (hρ: ∀ (k:Nat) (p:AN),ρ[k]? =some p -> ρ'[Cp σ b k]? =some p) {o o':DO} (hs:RC (some o)=true) (ho:Cq σ b (some o)=some o') (h:DD P M w ρ p o):DD P M' w ρ' p o':=by
 cases o with
 | cells l=>
  cases ho
  show Ag w p (l.map (up σ b)).length _
  rw [zE4];refine Ag.out h rfl fun j u hj hu=>?_
  have:(l.map (up σ b)).getD j .any=up σ b (l.getD j .any):=by simp [hj]
  rw [this];refine gv hρ _ ?_ hu;simp only [RC,zBT] at hs;exact hs _ (by simp [hj])
 | ints l=>cases ho;exact Ag.out h rfl fun j u _ hu=>hu
 | bools l=>cases ho;exact Ag.out h rfl fun j u _ hu=>hu
 | arr m n f=>cases hs
 | iter encs=>cases hs
 | mo x=>cases ho;exact h
section
variable {P:Program} {Γ:A6}
theorem ES.embedS {f:Nat} {ds:List DV} {h:DH} {d:DV} {h':DH} {ext:Bool} (Er:ES P Γ f ds h d h' ext) (σ:List Nat) (H:DH) (hn:σ.Nodup) (AP: ∀ k∈σ,k<H.length) (hl:σ.length=h.length) (Ck:h.length<=h'.length)
 (hh:(σ.map fun k=>H.getD k none)=h.map (Cq σ H.length)) {Dx:List DV} (Ak:Dx.length=ds.length) (zB8: ∀ i,i<ds.length -> Dx.getD i .any=up σ H.length (ds.getD i .any)∨K5 H σ (Dx.getD i .any) (ds.getD i .any)) (zr:IR d=true) (zp:h'.all RC=true):ES P Γ f Dx H (up σ H.length d) (Cw H σ h') ext:=by
 refine ⟨Er.1,fun N ρ w args HR CU=>?_⟩;obtain ⟨ρ0,TD⟩: ∃ ρ0,ρ0=σ.map fun k=>ρ.getD k ab:=⟨_,rfl⟩
 have S8:ρ0.length=σ.length:=by rw [TD];simp
 have FA: ∀ {i k:Nat},σ[i]? =some k -> ρ0[i]? =ρ[k]? :=fun {i k} hk=>by
  have Di:k<ρ.length:=by rw [HR.len];exact AP k (zCc hk)
  rw [TD,zBn,hk];simp [Di]
 have KF: ∀ {i:Nat},i<σ.length -> ∃ k,σ[i]? =some k/\ Cp σ H.length i=k:=fun {i} hi=>by
  refine ⟨σ[i],by simp [hi],?_⟩;unfold Cp;rw [zAE hi];simp [hi]
 have Gh: ∀ {i:Nat} {o:DO},h[i]? =some (some o) -> ∃ k o',σ[i]? =some k/\ H[k]? =some (some o')/\ Cq σ H.length (some o)=some o':=fun {i o} hi=>by
  have CK:i<σ.length:=by rw [hl];exact (zBN.1 hi).1
  obtain ⟨k,hk,_⟩:=KF CK;have e:=congrArg (·[i]?) hh;simp only [zBn,hk,hi,zCL] at e;have Bv:=AP k (zCc hk);have e:H.getD k none=Cq σ H.length (some o):=zBK e;have e2: ∃ o',Cq σ H.length (some o)=some o':=by cases o <;> exact ⟨_,rfl⟩
  obtain ⟨o',HL⟩:=e2;refine ⟨k,o',hk,?_,HL⟩;rw [HL] at e;rw [zBD Bv];rw [u8,zBD Bv] at e;exact congrArg some e
 have kq: ∀ {i k:Nat} {o':DO},σ[i]? =some k -> H[k]? =some (some o') -> ∃ o,h[i]? =some (some o)/\ Cq σ H.length (some o)=some o':=fun {i k o'} hk ho=>by
  have CK:i<h.length:=by rw [←hl];exact (zBN.1 hk).1
  have e:=congrArg (·[i]?) hh;simp only [zBn,hk,zBD CK,zCL] at e;have e:H.getD k none=Cq σ H.length h[i]:=zBK e;rw [Xb ho] at e;obtain ⟨o0,e0⟩:=Of e.symm;exact ⟨o0,by rw [zBD CK,e0],by rw [e0] at e;exact e.symm⟩
 obtain ⟨N0,GU⟩: ∃ N0:Nat -> Prop,N0=fun _=>False:=⟨_,rfl⟩
 have Hx: ∀ b,MO h ρ0 b -> MO H ρ b:=by
  rintro b ⟨i,o,p,g1,g2,g3⟩;obtain ⟨k,o',e1,e2,_⟩:=Gh g1;exact ⟨k,o',p,e2,(FA e1).symm.trans g2,g3⟩
 have NW: ∀ b,MS N0 h ρ0 b -> MS N H ρ b:=by
  rintro b (hb | hb)
  ·rw [GU] at hb;exact hb.elim
  ·exact .inr (Hx b hb)
 have dn: ∀ (k:Nat) (p:AN),ρ[Cp σ H.length k]? =some p -> ρ0[k]? =some p:=fun k p hp=>by
  by_cases hk:k<σ.length
  ·obtain ⟨k',e1,e2⟩:=KF hk;rw [e2] at hp;exact (FA e1).trans hp
  ·unfold Cp at hp;rw [zBP hk] at hp;have:=(zBN.1 hp).1;rw [HR.len] at this;omega
 have foreign: ∀ {k:Nat} {o:DO} {p:AN} {b:Nat},C3 σ k=none -> H[k]? =some (some o) -> ρ[k]? =some p -> p.foot b -> ¬ MO h ρ0 b:=by
  rintro k' o2 p2 b q1 q2 q3 q4 ⟨i,o,p,g1,g2,g3⟩;obtain ⟨k,o',e1,e2,_⟩:=Gh g1;have hp:=(FA e1).symm.trans g2;refine HR.dis k k' o' o2 p p2 b ?_ e2 q2 hp q3 g3 q4;rintro rfl;rw [O1 hn e1] at q1;cases q1
 have H0:BX P Γ N0 h ρ0 w:=by
  refine ⟨by rw [S8,hl],fun i o hi=>?_,fun i o p b g1 g2 g3=>?_,fun i i' o1 o2 p1 p2 b AY g1 g2 g3 g4 g5 g6=>?_,fun b hb=>HR.lt2 (NW b (.inl hb)),HR.gi⟩
  ·obtain ⟨k,o',e1,e2,e3⟩:=Gh hi;obtain ⟨p,hp,hr⟩:=HR.obj k o' e2;exact ⟨p,(FA e1).trans hp,oq NW dn e3 hr⟩
  ·obtain ⟨k,o',e1,e2,e3⟩:=Gh g1;obtain ⟨q1,q2,q3⟩:=HR.cel k o' p b e2 ((FA e1).symm.trans g2) g3;exact ⟨q1,fun hb=>by rw [GU] at hb;exact hb,q3⟩
  ·obtain ⟨k,o',e1,e2,e3⟩:=Gh g1;obtain ⟨k',aX,QQ,T0,e3'⟩:=Gh g2;refine HR.dis k k' o' aX p1 p2 b ?_ e2 T0 ((FA e1).symm.trans g3) ((FA QQ).symm.trans g4) g5 g6;rintro rfl;have a1:=O1 hn e1;have a2:=O1 hn QQ;exact AY (zBK (a1.symm.trans a2))
 refine (Er.2 N0 ρ0 w args H0 ⟨by rw [←CU.1,Ak],fun i hi=>?_⟩).mono ?_
 ·have:=CU.2 i (by rw [Ak];exact hi);rcases zB8 i hi with e | e
  ·rw [e] at this;exact dY NW dn _ this
  ·refine O0 (AQ.out _ (DR (fun b hb=>?_) []) (e P Γ N ρ w _ HR this));rcases hb with hb | ⟨i,o,p,g1,g2,g3⟩
   ·rw [GU] at hb;exact hb.elim
   ·obtain ⟨k,o',e1,e2,_⟩:=Gh g1;exact ⟨k,o',p,zCc e1,e2,(FA e1).symm.trans g2,g3⟩
 ·rintro e w' ⟨v,rfl,⟨⟨ρ1,g1,g2,g3,g4⟩,g5⟩⟩;have l1:ρ1.length=h'.length:=g1.len;obtain ⟨ρ',GP⟩: ∃ ρ',ρ'=ρ++ρ1.drop σ.length:=⟨_,rfl⟩
  have UW: ∀ {i k:Nat},σ[i]? =some k -> ρ1[i]? =ρ[k]? :=fun {i k} hk=>by
   have CK:i<ρ0.length:=by rw [S8];exact (zBN.1 hk).1
   have:=g4 i ρ0[i] (by simp [CK]);rw [this,←FA hk];simp [CK]
  have FK: ∀ {k:Nat},k<H.length -> ρ'[k]? =ρ[k]? :=fun {k} hk=>by rw [GP,zBq (by rw [HR.len];exact hk)]
  have Qs: ∀ (k:Nat) (p:AN),ρ1[k]? =some p -> ρ'[Cp σ H.length k]? =some p:=fun k p hp=>by
   by_cases hk:k<σ.length
   ·obtain ⟨k',e1,e2⟩:=KF hk;rw [e2,FK (AP k' (zCc e1)),←UW e1];exact hp
   ·unfold Cp;rw [zBP hk,GP,zCF (by rw [HR.len];omega),zFc,HR.len];rw [show σ.length+(H.length+(k-σ.length)-H.length)=k by omega];exact hp
  have ax:(Cw H σ h').length=H.length+(h'.length-σ.length):=by simp [Cw]
  have Gb: ∀ {k:Nat} {o':DO},(Cw H σ h')[k]? =some (some o') -> (k<H.length/\ C3 σ k=none/\ H[k]? =some (some o')/\ ρ'[k]? =ρ[k]?)∨∃ i o,h'[i]? =some (some o)/\ Cq σ H.length (some o)=some o'/\ ρ'[k]? =ρ1[i]? /\ k=Cp σ H.length i:=by
   intro k o' hk
   by_cases Bv:k<H.length
   ·unfold Cw at hk;rw [zBq (by simpa using Bv),zBn,zFr Bv] at hk;simp only [zCL,zFC] at hk;split at hk
    ·rename_i i hi;have H8:=JT hi;obtain ⟨o0,e0⟩:=Of hk;have CK:i<h'.length:=zBY (by rw [←hl];exact (zBN.1 H8).1) Ck;rw [e0] at hk;refine .inr ⟨i,o0,?_,hk,?_,?_⟩
     ·rw [zBD CK];rw [u8,zBD CK] at e0;exact congrArg some e0
     ·rw [FK Bv,UW H8]
     ·obtain ⟨k2,e1,e2⟩:=KF (zBN.1 H8).1;rw [e2];exact zBK (H8.symm.trans e1)
    ·rename_i hi;refine .inl ⟨Bv,hi,?_,FK Bv⟩;rw [zBD Bv];rw [u8,zBD Bv] at hk;exact congrArg some hk
   ·unfold Cw at hk;rw [zCF (by simp;omega),zBn,zFc] at hk;simp only [zE4,zFq] at hk;cases hx:h'[σ.length+(k-H.length)]? with
    | none=>rw [hx] at hk;cases hk
    | some x=>
     rw [hx] at hk;have hk:Cq σ H.length x=some o':=zBK hk;obtain ⟨o0,e0⟩:=Of hk;subst e0;refine .inr ⟨σ.length+(k-H.length),o0,hx,hk,?_,?_⟩
     ·rw [GP,zCF (by rw [HR.len];omega),zFc,HR.len]
     ·unfold Cp;rw [zBP (by omega)];omega
  have back: ∀ {k:Nat} {o:DO},C3 σ k=none -> H[k]? =some (some o) -> (Cw H σ h')[k]? =some (some o):=by
   intro k o hk ho;have Bv:=(zBN.1 ho).1;unfold Cw;rw [zBq (by simpa using Bv),zBn,zFr Bv];simp only [zCL,hk,Xb ho]
  have apart: ∀ {k:Nat} {o:DO} {p:AN} {b:Nat},C3 σ k=none -> H[k]? =some (some o) -> ρ[k]? =some p -> p.foot b -> ¬ MO h' ρ1 b:=fun {k o p b} q1 q2 q3 q4 hm=>by
   rcases g3.grow b hm with hg | hg
   ·exact foreign q1 q2 q3 q4 hg
   ·exact absurd (HR.lt (.inr ⟨k,o,p,q2,q3,q4⟩)) (Nat.not_lt.2 hg)
  have grow: ∀ b,MO (Cw H σ h') ρ' b -> MO H ρ b∨w.heap.size<=b:=by
   rintro b ⟨k,o',p,q1,q2,q3⟩;rcases Gb q1 with ⟨a1,a2,a3,a4⟩ | ⟨i,o,a1,a2,a3,a4⟩
   ·exact .inl ⟨k,o',p,a3,a4.symm.trans q2,q3⟩
   ·exact (g3.grow b ⟨i,o,p,a1,a3.symm.trans q2,q3⟩).imp (Hx b) id
  have pl: ∀ (k:Nat) (p:AN),ρ[k]? =some p -> ρ'[k]? =some p:=fun k p hp=>by
   rw [GP,zBq (zBN.1 hp).1];exact hp
  have O:Ba (MS N H ρ) w ρ (MS N (Cw H σ h') ρ') w' ρ':=
   ⟨fun b hb hm _=>g3.upd.block b hb fun hx=>hm (.inr (Hx b hx)),fun b hb=>hb.elim (fun hb=>.inl (.inl hb)) (fun hb=>(grow b hb).imp .inr id),pl⟩
  refine ⟨v,rfl,⟨⟨ρ',⟨?_,fun k o' hk=>?_,fun k o' p b q1 q2 q3=>?_,fun k k' o1 o2 p1 p2 b AY q1 q2 q3 q4 q5 q6=>?_,fun b hb=>⟨zBY (HR.nlt b hb).1 g3.upd.size,(HR.nlt b hb).2⟩,g1.gi⟩,gv Qs _ zr g2,⟨g3.upd.mono fun b _ hb=>Hx b hb,grow⟩,pl⟩,g5⟩⟩
  ·rw [ax,GP];simp [HR.len,l1]
  ·rcases Gb hk with ⟨a1,a2,a3,a4⟩ | ⟨i,o,a1,a2,a3,a4⟩
   ·obtain ⟨p,hp,hr⟩:=HR.obj k o' a3;refine ⟨p,a4.trans hp,hr.out O g3.upd (fun b hb=>.inr (Hx b hb)) fun b _ hf hs=>?_⟩;exact foreign a2 a3 hp hf hs
   ·obtain ⟨p,hp,hr⟩:=g1.obj i o a1;exact ⟨p,a3.trans hp,rY Qs (zBT.1 zp _ (zCc a1)) a2 hr⟩
  ·rcases Gb q1 with ⟨a1,a2,a3,a4⟩ | ⟨i,o,a1,a2,a3,a4⟩
   ·have hp:=a4.symm.trans q2;obtain ⟨c1,c2,c,t,z,c3⟩:=HR.cel k o' p b a3 hp q3;refine ⟨c1,c2,c,t,z,(g3.upd.block b (zBG.1 c3).1 fun hx=>?_).trans c3⟩;exact foreign a2 a3 hp q3 hx
   ·obtain ⟨c1,c2,c3⟩:=g1.cel i o p b a1 (a3.symm.trans q2) q3;refine ⟨c1,fun hb=>?_,c3⟩;rcases g3.grow b ⟨i,o,p,a1,a3.symm.trans q2,q3⟩ with hg | hg
    ·obtain ⟨k2,o2,p2,d1,d2,d3⟩:=Hx b hg;exact (HR.cel k2 o2 p2 b d1 d2 d3).2.1 hb
    ·exact absurd (HR.nlt b hb).1 (Nat.not_lt.2 hg)
  ·rcases Gb q1 with ⟨a1,a2,a3,a4⟩ | ⟨i,o,a1,a2,a3,a4⟩
   ·rcases Gb q2 with ⟨c1,c2,c3,c4⟩ | ⟨i',o',c1,c2,c3,c4⟩
    ·exact HR.dis k k' o1 o2 p1 p2 b AY a3 c3 (a4.symm.trans q3) (c4.symm.trans q4) q5 q6
    ·exact apart a2 a3 (a4.symm.trans q3) q5 ⟨i',o',p2,c1,c3.symm.trans q4,q6⟩
   ·rcases Gb q2 with ⟨c1,c2,c3,c4⟩ | ⟨i',o',c1,c2,c3,c4⟩
    ·exact apart c2 c3 (c4.symm.trans q4) q6 ⟨i,o,p1,a1,a3.symm.trans q3,q5⟩
    ·refine g1.dis i i' o o' p1 p2 b ?_ a1 c1 (a3.symm.trans q3) (c3.symm.trans q4) q5 q6;rintro rfl;exact AY (a4.trans c4.symm)
end
theorem K5.own {h:DH} {σ:List Nat} {j:Nat} {f:Int -> List Int} {x:Int} {L:List Int} {g:Bool} (hk:h[j]? =some (some (.mo (.rows f (some (x,L,g)))))) (hj:σ.contains j=false):K5 h σ (.mri j 1) (.ints L):=by
 rintro P Γ N ρ w v H ⟨p,vs,hp,FP,Dg⟩;obtain ⟨p',BE,u,es,Ad,hA⟩:=H.obj j _ hk;have:p'=p:=zBK (BE.symm.trans hp);subst this;have e: #[Value.map (some p'.blk),u]=vs:=by have:=hA.val.symm.trans FP;cases this;rfl
 subst e;have ev:v=u:=by simpa using Dg.symm
 subst ev;rcases (hA.inHand x L g rfl).1 with ⟨rfl,rfl⟩ | ⟨q,cap,rfl,h1,h2,h3,h4,h5⟩
 ·exact ⟨none,0,rfl,zBa _,zE6 _,fun j hj=>absurd hj (zBW j)⟩
 ·refine ⟨_,cap,rfl,h1,h3,fun i hi=>⟨q.blk,q.off,rfl,?_,?_⟩⟩
  ·rintro ⟨k,o,p2,g1,g2,g3,g4⟩;refine H.dis k j o _ p2 p' q.blk (fun e=>?_) g2 hk g3 hp g4 h4.1;subst e;have:=zFZ.2 g1;rw [this] at hj;cases hj
  ·obtain ⟨u,e1,e2⟩:=Ag.cell h5 hi;rw [e1,e2]
def Wc (H:DH) (σ:List Nat):List DV -> List DV -> Prop
 | [],[]=>True
 | d1::Dx,d::ds=>(d1=up σ H.length d∨K5 H σ d1 d)/\ Wc H σ Dx ds
 | _,_=>False
theorem ao {H:DH} {σ:List Nat}: ∀ {Dx ds:List DV},Wc H σ Dx ds -> Dx.length=ds.length/\ ∀ i,i<ds.length -> Dx.getD i .any=up σ H.length (ds.getD i .any)∨K5 H σ (Dx.getD i .any) (ds.getD i .any)
 | [],[],_=>⟨rfl,fun i hi=>absurd hi (zBW i)⟩
 | d1::Dx,d::ds,⟨h1,h2⟩=>by
  obtain ⟨g1,g2⟩:=ao h2;refine ⟨by simp [g1],fun i hi=>?_⟩;cases i with
  | zero=>exact h1
  | succ i=>exact g2 i (by simpa using hi)
 | [],_::_,h=>h.elim
 | _::_,[],h=>h.elim
theorem ES.embedSB {P:Program} {Γ:A6} {f:Nat} {ds:List DV} {h:DH} {d:DV} {h':DH} {ext:Bool} (Er:ES P Γ f ds h d h' ext) (σ:List Nat) (H:DH) {Dx:List DV} (ha:Wc H σ Dx ds) (hb:MG σ H.length h.length h'.length=true) (hh:(σ.map fun k=>H.getD k none)=h.map (Cq σ H.length)) (hs:(IR d&&h'.all RC)=true):
 ES P Γ f Dx H (up σ H.length d) (Cw H σ h') ext:=by
 simp only [MG,zBE,zCK,zBT] at hb;rw [zBE] at hs;exact Er.embedS σ H hb.1.1.1 (fun k hk=>hb.1.1.2 k hk) hb.1.2 hb.2 hh (ao ha).1 (ao ha).2 hs.1 hs.2
end Go.Proofs.YtekkngkphejfcaaGreatDoor
