/- Part 2 of 7 of what the proofs of these laws stand on. -/
import Derived.Test.YtgkhhfnhacibcaaGreatDoorPdA
import Derived.Test.YtgkhhfnhacibcaaGreatDoorProg
import Derived.Shelf.Spec.TrailingZeros
set_option linter.all false
namespace Go.Proofs.YtgkhhfnhacibcaaGreatDoor
abbrev zDc:=@List.getElem?_replicate
abbrev zE8:=@Array.getElem?_replicate
end Go.Proofs.YtgkhhfnhacibcaaGreatDoor
namespace Go.Proofs.YtgkhhfnhacibcaaGreatDoor
open Go.RowKit
def Uy (P:Program) (t:TypeId):Option (Nat×TypeId×TypeInfo):=match P.underlying t with
 | some (.slice e)=>match Mn P e with
  | some (n,_)=>match P.info? e with
   | some i=>match i.zero with
    | some (.map none)=>if i.size=1/\ i.bytes<=128 then some (n,e,i) else none
    | _=>none
   | none=>none
  | none=>none
 | _=>none
theorem uB {P:Program} {t e:TypeId} {n:Nat} {i:TypeInfo} (h:Uy P t=some (n,e,i)):P.underlying t=some (.slice e)/\ P.info? e=some i/\ i.zero=some (.map none)/\ i.size=1/\ i.bytes<=128:=by
 unfold Uy at h;split at h
 ·rename_i e' hu;split at h
  ·split at h
   ·rename_i i' hi;split at h
    ·rename_i hz;split at h
     ·rename_i hc;cases h;exact ⟨hu,hi,hz,hc.1,hc.2⟩
     ·cases h
    ·cases h
   ·cases h
  ·cases h
 ·cases h
section
variable {P:Program} {Γ:A1} {N:Nat -> Prop} {S:St} {ρ:List AJ} {a:Act} {w:World} {h:DH}
theorem rq {α:Type} {n j:Nat} {x y:α} (h:(List.replicate n x)[j]? =some y):x=y:=by
 rw [zDc] at h;split at h
 ·exact zCq h
 ·cases h
theorem uJ (R:Ac P Γ N S ρ a w) {t e:TypeId} {x y:Operand} {n:Nat} {i:TypeInfo} {kx ky:IntKind} {m:Int} (hT:Uy P t=some (n,e,i)) (hx:Aa S.fr x= .int kx m) (hy:Aa S.fr y= .int ky m)
 (hn:0<=m/\ m<=1000000000000) (o:Oper) (ho:o.op= .makeSlice t x y) (ext:Bool):
 BM P (execOp a.eval o) w (DJ P Γ N S.h ρ w ext (.msl S.h.length 1 0 m.toNat) (S.h++[some (.mo (.sets n (List.replicate m.toNat none) none))])):=by
 obtain ⟨hu,hi,hz,hs,Dc⟩:=uB hT;have GN:=hn.1;have Hq:=hn.2;have rx:=Bo R x;have ry:=Bo R y;rw [hx] at rx;rw [hy] at ry;have DR:(madeCells (Value.map none).cells (m.toNat*i.size)).size=m.toNat:=by rw [size_madeCells,hs,zDf]
 have C3: ∀ j,j<m.toNat -> (madeCells (Value.map none).cells (m.toNat*i.size))[j]? =some (Value.map none):=fun j hj=>by
  simp [madeCells,hs,hj,Value.cells,Nat.mod_one]
 refine BM.value (s:=Instr.makeSlice t (a.eval x) (a.eval y)) (by unfold execOp;rw [ho]) (v:=.slice (some ⟨w.heap.size,0,none⟩) m.toNat m.toNat) (w':=w.alloc (.cells (madeCells (Value.map none).cells (m.toNat*i.size)) e)) ?_ ?_
 ·rw [show a.eval x=_ from rx,show a.eval y=_ from ry];refine run_make w t e i _ hu hi hz kx ky m m GN (zDZ _) ?_ (by omega);have:(i.bytes:Int)*m<=128*1000000000000:=Int.mul_le_mul (by omega) Hq GN (by omega);omega
 ·generalize hC:madeCells (Value.map none).cells (m.toNat*i.size)=cs at DR C3 ⊢
  refine SH (ob:=.cells cs e) (o:=.mo (.sets n (List.replicate m.toNat none) none)) (d:=.msl S.h.length 1 0 m.toNat) (pl:=⟨w.heap.size,0,cs.size,.tuple (Array.replicate m.toNat (Value.map none)),fun b=>b=w.heap.size⟩) R.hr rfl rfl (fun M ρ'=>?_) (fun M ρ' hp=>⟨_,m.toNat,hp,by simp,zC6 _,by unfold LB;omega,by simp [DR]⟩) ext;refine ⟨Array.replicate m.toNat (Value.map none),rfl,by simp,⟨cs,e,zES w _,by simp [DR],zC6 _,fun j hj=>?_⟩,rfl,fun j l hj=>?_,fun j hj=>?_,fun b hb=>.inl hb,fun i j b h1 h2=>?_⟩
  ·rw [zC0] at hj
   show cs[0+j]? =_
   rw [zC4,C3 j hj,zE8,zB3 hj]
  ·have:=rq hj;cases this
  ·have A3:=(zCr.1 hj).1;rw [zC0] at A3;rw [zE8,zB3 A3]
  ·rw [zE8] at h1;split at h1 <;> cases h1
theorem BP.merge (H:BP P Γ N h ρ w) {w':World} {k j:Nat} {o oj o':DO} {p q p':AJ} (aA:k≠j) (hk:h[k]? =some (some o)) (hp:ρ[k]? =some p) (hj:h[j]? =some (some oj)) (hq:ρ[j]? =some q) (hu:AO p.foot w w') (hf: ∀ b,p'.foot b -> (p.foot b∨q.foot b)/\ DW w' b)
 (ho:DU P (MS N ((h.set k none).set j none++[some o']) (ρ++[p'])) w' (ρ++[p']) p' o'):
 BP P Γ N ((h.set k none).set j none++[some o']) (ρ++[p']) w'/\ BH h ρ w ((h.set k none).set j none++[some o']) (ρ++[p']) w':=by
 have Ah:((h.set k none).set j none).length=h.length:=by simp
 have hM: ∀ b,p.foot b -> MO h ρ b:=fun b hb=>⟨k,o,p,hk,hp,hb⟩
 have zT: ∀ b,q.foot b -> MO h ρ b:=fun b hb=>⟨j,oj,q,hj,hq,hb⟩
 have kE: ∀ {i:Nat} {o1:DO},((h.set k none).set j none)[i]? =some (some o1) -> i≠k/\ i≠j/\ h[i]? =some (some o1):=fun {i o1} hi=>by
  obtain ⟨e1,e2⟩:=F0 hi;obtain ⟨e3,e4⟩:=F0 e2;exact ⟨e3,e1,e4⟩
 have IV: ∀ {i:Nat} {o1:DO} {p1:AJ},((h.set k none).set j none++[some o'])[i]? =some (some o1) -> (ρ++[p'])[i]? =some p1 -> (i≠k/\ i≠j/\ i<h.length/\ h[i]? =some (some o1)/\ ρ[i]? =some p1)∨(i=h.length/\ o1=o'/\ p1=p'):=by
  intro i o1 p1 h1 h2;rcases Dd h1 with ⟨hl,h1⟩ | ⟨hl,h1⟩
  ·rw [Ah] at hl;rcases Dd h2 with ⟨_,h2⟩ | ⟨Cd,_⟩
   ·obtain ⟨e1,e2,e3⟩:=kE h1;exact .inl ⟨e1,e2,hl,e3,h2⟩
   ·rw [H.len] at Cd;omega
  ·rw [Ah] at hl;rcases Dd h2 with ⟨Cd,_⟩ | ⟨_,h2⟩
   ·rw [H.len] at Cd;omega
   ·cases h1;exact .inr ⟨hl,rfl,h2.symm⟩
 have grow: ∀ b,MO ((h.set k none).set j none++[some o']) (ρ++[p']) b -> MO h ρ b:=by
  rintro b ⟨i,o1,p1,h1,h2,h3⟩;rcases IV h1 h2 with ⟨_,_,_,g1,g2⟩ | ⟨_,_,rfl⟩
  ·exact ⟨i,o1,p1,g1,g2,h3⟩
  ·exact (hf b h3).1.elim (hM b) (zT b)
 have O:BV (MS N h ρ) w ρ (MS N ((h.set k none).set j none++[some o']) (ρ++[p'])) w' (ρ++[p']):=
  ⟨fun b hb hm _=>hu.block b hb fun hx=>hm (.inr (hM b hx)),fun b hb=>.inl (hb.imp id (grow b)),fun i q hi=>Dz hi⟩
 refine ⟨⟨by simp [H.len],fun i o1 hi=>?_,fun i o1 p1 b h1 h2 h3=>?_,fun i i' o1 o2 p1 p2 b AY h1 h2 h3 h4 h5 h6=>?_,fun b hb=>⟨zCu (H.nlt b hb).1 hu.size,(H.nlt b hb).2⟩,Γ.st _ _ H.gi (hu.mono fun b _ hb=>(H.cel k o p b hk hp hb).1)⟩,⟨hu.mono fun b _ hb=>hM b hb,fun b hb=>.inl (grow b hb)⟩⟩
 ·rcases Dd hi with ⟨hl,hi⟩ | ⟨hl,hi⟩
  ·obtain ⟨e1,e2,e3⟩:=kE hi;obtain ⟨p1,LU,hr⟩:=H.obj i o1 e3;exact ⟨p1,Dz LU,hr.out O hu (fun b hb=>.inr (hM b hb)) fun b _ h1 h2=>H.dis i k o1 o p1 p b e1 e3 hk LU hp h1 h2⟩
  ·cases hi;exact ⟨p',by rw [hl,Ah,←H.len];simp,ho⟩
 ·rcases IV h1 h2 with ⟨AY,_,_,g1,g2⟩ | ⟨_,_,rfl⟩
  ·obtain ⟨e1,e2,c,t,z,e3⟩:=H.cel i o1 p1 b g1 g2 h3;exact ⟨e1,e2,c,t,z,(hu.block b (zCl.1 e3).1 fun hx=>H.dis i k o1 o p1 p b AY g1 hk g2 hp h3 hx).trans e3⟩
  ·obtain ⟨e1,e2⟩:=hf b h3;rcases e1 with e1 | e1
   ·obtain ⟨q1,q2,_⟩:=H.cel k o p b hk hp e1;exact ⟨q1,q2,e2⟩
   ·obtain ⟨q1,q2,_⟩:=H.cel j oj q b hj hq e1;exact ⟨q1,q2,e2⟩
 ·have key: ∀ {i o1 p1},i≠k -> i≠j -> h[i]? =some (some o1) -> ρ[i]? =some p1 -> p1.foot b -> p'.foot b -> False:=fun {i o1 p1} AY M9 g1 g2 g3 g4=>by
   rcases (hf b g4).1 with e1 | e1
   ·exact H.dis i k o1 o p1 p b AY g1 hk g2 hp g3 e1
   ·exact H.dis i j o1 oj p1 q b M9 g1 hj g2 hq g3 e1
  rcases IV h1 h3 with ⟨Rt,M9,_,g1,g2⟩ | ⟨e1,_,rfl⟩
  ·rcases IV h2 h4 with ⟨hne3,_,_,g3,g4⟩ | ⟨e2,_,rfl⟩
   ·exact H.dis i i' o1 o2 p1 p2 b AY g1 g3 g2 g4 h5 h6
   ·exact key Rt M9 g1 g2 h5 h6
  ·rcases IV h2 h4 with ⟨Rt,M9,_,g1,g2⟩ | ⟨e2,_,rfl⟩
   ·exact key Rt M9 g1 g2 h6 h5
   ·exact AY (e1.trans e2.symm)
def LH (k k':Nat):DV -> DV
 | .msl k1 m o n=>if k1=k then .msl k' m o n else .msl k1 m o n
 | d=>d
def Xa (P:Program) (S:St) (o:Oper):Option (St×List Prop):=match o.op with
 | .store t x y=>match o.dst with
  | none=>match Aa S.fr x with
   | .mp k 1 i 0=>match Aa S.fr y with
    | .it j=>match S.h[k]? with
     | some (some (.mo (.sets n ls none)))=>match S.h[j]? with
      | some (some (.mo (.set n' l)))=>if n'=n/\ (P.info? t).any (fun i=>i.size==1)=true then some (⟨S.fr.map (LH k S.h.length),(S.h.set k none).set j none++[some (.mo (.sets n (ls.set i (some l)) none))]⟩,[i<ls.length]) else none
      | _=>none
     | _=>none
    | _=>none
   | _=>none
  | some _=>none
 | _=>none
theorem E7.of_map {p:AJ} {n:Nat} {ls:List (Option KS)} {lk:Option (Nat×Nat×Array MapEntry×Nat)} {vs:Array Value} (hS:E7 w p n ls lk vs) {i b:Nat} (h:vs[i]? =some (Value.map (some b))): ∃ l,ls[i]? =some (some l)/\ p.foot b/\ b≠p.blk/\ ∃ es AX,Et w b n l es AX:=by
 have hi:i<ls.length:=by rw [←hS.size];exact (zCl.1 h).1
 cases hl:ls[i] with
 | none=>
  have:=hS.nil i (by rw [zAe hi,hl]);rw [this] at h;cases h
 | some l=>
  have Dv:ls[i]? =some (some l):=by rw [zAe hi,hl]
  obtain ⟨b',g1,g2,g3,es,AX,g4,_⟩:=hS.has i l Dv;have:b'=b:=by rw [g1] at h;cases h;rfl
  subst this;exact ⟨l,Dv,g3,g2,es,AX,g4⟩
theorem oL (R:Ac P Γ N S ρ a w) {o:Oper} {S':St} {vs:List Prop} (h:Xa P S o=some (S',vs)) (hv:Bm vs):
 BM P (execOp a.eval o) w (fun v w'=>(∃ ρ',Ac P Γ N S' ρ' (a.put o.dst v) w'/\ C5 S.h ρ w S'.h ρ' w')/\ ∃ k i p t x y,o.op= .store t x y/\ Aa S.fr x= .mp k 1 i 0/\ ρ[k]? =some p/\ AO p.foot w w'):=by
 unfold Xa at h;split at h
 case h_2=>cases h
 rename_i t x y ho;split at h
 case h_2=>cases h
 rename_i aK;split at h
 case h_2=>cases h
 rename_i k i hX;split at h
 case h_2=>cases h
 rename_i j hY;split at h
 case h_2=>cases h
 rename_i n ls hK;split at h
 case h_2=>cases h
 rename_i n' l hJ;split at h
 case isFalse=>cases h
 rename_i hc;cases h;obtain ⟨yL,Az⟩:=hc;subst yL;have hi:i<ls.length:=hv.1;have rx:=Bo R x;have ry:=Bo R y;rw [hX] at rx;rw [hY] at ry;obtain ⟨p,hp,ex⟩:=rx;obtain ⟨q,es,AX,hq,ey,i8,hqv,hA⟩:=Xl R hJ ry;obtain ⟨p',A2,Nr,hS⟩:=R.hr.obj k _ hK;have:p'=p:=zCq (A2.symm.trans hp);subst this;have aA:k≠j:=fun e=>by subst e;rw [hK] at hJ;cases hJ
 obtain ⟨cs,ty,hb,FL,Cd,C3⟩:=hS.row;cases KC:P.info? t with
 | none=>rw [KC] at Az;cases Az
 | some ti=>
 rw [KC] at Az;have Ol:ti.size=1:=by simpa using Az
 have jS:i<Nr.size:=by rw [hS.size];exact hi
 have Zm: ∀ b,p'.foot b -> b≠q.blk:=fun b hb e=>R.hr.dis k j _ _ p' q b aA hK hJ hp hq hb (by rw [i8];exact e)
 have aw:a.eval x= .pointer (some ⟨p'.blk,p'.off+i,none⟩):=by rw [ex];simp
 have BQ:w.cell? ⟨p'.blk,p'.off+i,none⟩=some Nr[i]:=by
  unfold World.cell?;simp only [hb];rw [C3 i hi,zDQ jS];rfl
 have Gc: ∀ jj,w.frozen? ⟨p'.blk,jj,none⟩=false:=fun jj=>by unfold World.frozen?;simp [hb]
 have hU:AO p'.foot w (w.setCells p'.blk (p'.off+i) (a.eval y).cells.toList):=(Nt _ _ _ _).mono fun b _ e=>by rw [show b=p'.blk from e];exact hS.blk
 refine BM.skip (s:=Instr.storeAt t (a.eval x) (a.eval y)) (by unfold execOp;rw [ho]) (w':=w.setCells p'.blk (p'.off+i) (a.eval y).cells.toList) ?_ ?_
 ·rw [aw];refine Xx KC (by rw [ey,Ol];rfl) (fun jj LX=>?_) Gc (fun u hu=>?_)
  ·rw [ey] at LX;have:jj=0:=by simpa [Value.cells] using LX
   subst this;rw [zEZ,BQ];rfl
  ·rw [ey] at hu;have:u= .map (some q.blk):=by simpa [Value.cells] using hu
   subst this;rfl
 ·rw [aK];rw [ey] at hU ⊢;have eC:(Value.map (some q.blk)).cells.toList= [Value.map (some q.blk)]:=rfl;rw [eC] at hU ⊢;obtain ⟨EM,e1,e2,e3⟩:=O5 p'.blk ty (0,0) [Value.map (some q.blk)] (p'.off+i) w cs hb (by simp;omega)
  generalize hW:w.setCells p'.blk (p'.off+i) [Value.map (some q.blk)]=W at hU e1 ⊢
  have Ba: ∀ {b ob},b≠p'.blk -> w.heap[b]? =some ob -> W.heap[b]? =some ob:=fun {b ob} AY DC=>by
   rw [←DC,←hW];exact (Nt p'.blk [Value.map (some q.blk)] (p'.off+i) w).block b (zCl.1 DC).1 AY
  have fc:q.blk≠p'.blk:=fun e=>Zm p'.blk hS.blk e.symm
  let BY:=Nr.setIfInBounds i (Value.map (some q.blk))
  have Hl: ∀ m:Nat,BY[m]? =if i=m then some (Value.map (some q.blk)) else Nr[m]? :=fun m=>by
   show (Nr.setIfInBounds i _)[m]? =_
   rw [zDa]
   by_cases e:i=m
   ·rw [zB3 e,zB3 e,zB3 jS]
   ·rw [zCt e,zCt e]
  let p2:AJ:=⟨p'.blk,p'.off,p'.room,.tuple BY,fun b=>b=p'.blk∨∃ m:Nat,BY[m]? =some (Value.map (some b))⟩
  have iE: ∀ {m:Nat} {z:Option KS},(ls.set i (some l))[m]? =some z -> (m=i/\ z=some l)∨(m≠i/\ ls[m]? =some z):=fun {m z} hm=>by
   rw [zDP] at hm
   by_cases e:i=m
   ·subst e;simp [hi] at hm;exact .inl ⟨rfl,hm.symm⟩
   ·rw [zCt e] at hm;exact .inr ⟨zEy e,hm⟩
  have SA:E7 W p2 n' (ls.set i (some l)) none BY:=by
   refine ⟨rfl,by simp [BY,hS.size],⟨EM,ty,e1,by simpa [e2] using FL,by rw [e2];exact Cd,fun m hm=>?_⟩,.inl rfl,fun m l1 hm=>?_,fun m hm=>?_,fun b hb=>?_,fun m m' b h1 h2=>?_⟩
   ·rw [zDE] at hm
    show EM[p'.off+m]? =BY[m]?
    rw [e3,Hl]
    by_cases e:i=m
    ·subst e;rw [zB3 (by simp),zB3 rfl];simp
    ·rw [zCt (by simp;omega),zCt e];exact C3 m hm
   ·rcases iE hm with ⟨rfl,e⟩ | ⟨AY,hm⟩
    ·cases e;refine ⟨q.blk,by rw [Hl,zB3 rfl],fc,.inr ⟨m,by rw [Hl,zB3 rfl]⟩,es,AX,{ hA with blk:=Ba fc hA.blk },fun x hx=>by cases hx⟩
    ·obtain ⟨b,k1,k2,k3,Hv,c1,k4,_⟩:=hS.has m l1 hm;exact ⟨b,by rw [Hl,zCt (zEy AY)];exact k1,k2,.inr ⟨m,by rw [Hl,zCt (zEy AY)];exact k1⟩,Hv,c1,{ k4 with blk:=Ba k2 k4.blk },fun x hx=>by cases hx⟩
   ·rcases iE hm with ⟨rfl,e⟩ | ⟨AY,hm⟩
    ·cases e
    ·rw [Hl,zCt (zEy AY)];exact hS.nil m hm
   ·rcases hb with hb | ⟨m,hm⟩
    ·exact .inl hb
    ·refine .inr ?_;have AC:=hm;rw [Hl] at hm
     by_cases e:i=m
     ·subst e;exact ⟨i,l,by simp [hi],AC⟩
     ·rw [zCt e] at hm;obtain ⟨l1,g1,_⟩:=hS.of_map hm;exact ⟨m,l1,by rw [zDP,zCt e];exact g1,AC⟩
   ·rw [Hl] at h1 h2
    by_cases c1:i=m
    ·by_cases c2:i=m'
     ·omega
     ·rw [zB3 c1] at h1;rw [zCt c2] at h2;cases h1;obtain ⟨_,_,g2,_⟩:=hS.of_map h2;exact absurd rfl (Zm _ g2)
    ·rw [zCt c1] at h1
     by_cases c2:i=m'
     ·rw [zB3 c2] at h2;cases h2;obtain ⟨_,_,g2,_⟩:=hS.of_map h1;exact absurd rfl (Zm _ g2)
     ·rw [zCt c2] at h2;exact hS.inj m m' b h1 h2
  have E1: ∀ b,p2.foot b -> (p'.foot b∨q.foot b)/\ DW W b:=fun b hb=>by
   refine ⟨?_,SA.lies hb⟩;rcases hb with hb | ⟨m,hm⟩
   ·exact .inl (by rw [hb];exact hS.blk)
   ·rw [Hl] at hm
    by_cases e:i=m
    ·rw [zB3 e] at hm;cases hm;exact .inr (by rw [i8])
    ·rw [zCt e] at hm;exact .inl (hS.of_map hm).choose_spec.2.1
  obtain ⟨g1,g2⟩:=R.hr.merge (o':=.mo (.sets n' (ls.set i (some l)) none)) (p':=p2) aA hK hp hJ hq hU E1 ⟨BY,SA⟩
  have O:BV (MS N S.h ρ) w ρ (MS N ((S.h.set k none).set j none++[some (.mo (.sets n' (ls.set i (some l)) none))]) (ρ++[p2])) W (ρ++[p2]):=
   ⟨fun b hb hm _=>hU.block b hb fun hx=>hm (.inr ⟨k,_,p',hK,hp,hx⟩),fun b hb=>hb.elim (fun h=>.inl (.inl h)) (fun h=>(g2.grow b h).imp .inr id),fun k q hk=>Dz hk⟩
  refine ⟨⟨ρ++[p2],⟨g1,by simp [R.fr.1,Act.put],fun m hm=>?_⟩,g2,fun k q hk=>Dz hk⟩,k,i,p',t,x,y,ho,hX,hp,hU⟩;have CE:m<S.fr.length:=by simpa using hm
  have e:(S.fr.map (LH k S.h.length)).getD m .any=LH k S.h.length (S.fr.getD m .any):=by simp [CE]
  show AK _ W ((S.fr.map (LH k S.h.length)).getD m .any) _ _
  rw [e];have r0:=R.fr.2 m CE;cases hd:S.fr.getD m .any with
  | msl k1 m1 o1 n1=>
   rw [hd] at r0
   by_cases hc:k1=k
   ·have e2:LH k S.h.length (.msl k1 m1 o1 n1)= .msl S.h.length m1 o1 n1:=by simp only [LH,zB3 hc]
    rw [e2];rw [hc] at r0;obtain ⟨q0,cap,Ov,Zc,u1,u2,u3⟩:=r0;have eq0:q0=p':=zCq (Ov.symm.trans hp);subst eq0;exact ⟨p2,cap,by rw [←R.hr.len];simp,Zc,u1,u2,u3⟩
   ·have e2:LH k S.h.length (.msl k1 m1 o1 n1)= .msl k1 m1 o1 n1:=by simp only [LH,zCt hc]
    rw [e2];exact AK.out _ O r0
  | _=>rw [hd] at r0;exact AK.out _ O r0
end
end Go.Proofs.YtgkhhfnhacibcaaGreatDoor
namespace Go.Proofs.YtgkhhfnhacibcaaGreatDoor
abbrev zEm:=@List.mem_iff_getElem?
abbrev zEn:=@Array.getElem?_toList
abbrev zFR:=@Array.mem_toList_iff
end Go.Proofs.YtgkhhfnhacibcaaGreatDoor
namespace Go.Proofs.YtgkhhfnhacibcaaGreatDoor
open Go.RowKit
def P4:DV:=.tup 0 (fun j=>([]:List DV).getD j .any)
theorem TZ {M:Nat -> Prop} {w:World} {ρ:List AJ}:AK M w P4 ρ undef:=⟨#[],rfl,rfl,fun j hj=>absurd hj (zCz j)⟩
def D9 (fr:List DV) (dst:Option Nat) (d:DV):List DV:=match dst with
 | some t=>fr.set t d
 | none=>fr
section
variable {P:Program} {Γ:A1} {N:Nat -> Prop} {S:St} {ρ:List AJ} {a:Act} {w:World}
theorem IF (R:Ac P Γ N S ρ a w) (dst:Option Nat) {d:DV} {v:Value} (hv:AK (MS N S.h ρ) w d ρ v):Ac P Γ N ⟨D9 S.fr dst d,S.h⟩ ρ (a.put dst v) w:=by
 refine ⟨R.hr,?_⟩;cases dst with
 | none=>exact R.fr
 | some t=>exact R.fr.set t hv
theorem NO (R:Ac P Γ N S ρ a w) {d d':DV} {h':DH} {ext:Bool} {v:Value} {w':World} (dst:Option Nat) (G:DJ P Γ N S.h ρ w ext d h' v w') (hd: ∀ M ρ',AK M w' d ρ' v -> AK M w' d' ρ' v):
 ∃ ρ',Ac P Γ N ⟨D9 S.fr dst d',h'⟩ ρ' (a.put dst v) w'/\ C5 S.h ρ w h' ρ' w':=by
 obtain ⟨ρ',g1,g2,g3,g4⟩:=G.ex;have O:BV (MS N S.h ρ) w ρ (MS N h' ρ') w' ρ':=⟨fun b hb hm _=>g3.upd.block b hb fun hx=>hm (.inr hx),fun b hb=>hb.elim (fun h=>.inl (.inl h)) (fun h=>(g3.grow b h).imp .inr id),g4⟩;have R':Ac P Γ N ⟨S.fr,h'⟩ ρ' a w':=⟨g1,R.fr.out O⟩;exact ⟨ρ',IF R' dst (hd _ _ g2),g3,g4⟩
end
def Qb (P:Program) (t:TypeId):Option (TypeId×TypeId):=match P.underlying t with
 | some (.map k e)=>if Re P k then match P.info? e with
  | some i=>match i.zero with
   | some (.slice none 0 0)=>some (k,e)
   | _=>none
  | none=>none
  else none
 | _=>none
theorem ew {P:Program} {t k e:TypeId} (h:Qb P t=some (k,e)):P.underlying t=some (.map k e)/\ GI P k=some 1/\ ∀ w,(zeroValue e).run P w= .ok (.slice none 0 0) w:=by
 unfold Qb at h;split at h
 ·rename_i k' e' hu;split at h
  ·rename_i hk;split at h
   ·rename_i i hi;split at h
    ·rename_i hz;cases h;exact ⟨hu,by unfold GI;rw [ZG hk],fun w=>by simp [zeroValue,typeInfo,hi,hz]⟩
    ·cases h
   ·cases h
  ·cases h
 ·cases h
def OW (j q:Nat):DV -> DV
 | .mri k i=>if k=j then (if i=0 then .mri q 0 else .any) else .mri k i
 | d=>d
def Gn (f:Int -> List Int) (k:Int) (L:List Int):Int -> List Int:=fun x=>if x=k then L else f x
def Qc (P:Program) (S:St) (o:Oper):Option (St×List Prop):=match o.op with
 | .makeMap t none=>match Qb P t with
  | some _=>some (⟨D9 S.fr o.dst (.mri S.h.length 0),S.h++[some (.mo (.rows (fun _=>[]) none))]⟩,[])
  | none=>none
 | .lookup t m k false=>match Qb P t with
  | some _=>match Aa S.fr m,Aa S.fr k with
   | .mri j 0,.int .i64 x=>match S.h[j]? with
    | some (some (.mo (.rows f Bu)))=>if Bu.all (fun y=>!y.2.2) then some (⟨D9 (S.fr.map (OW j S.h.length)) o.dst (.mri S.h.length 1),S.h.set j none++[some (.mo (.rows f (some (x,f x,false))))]⟩,[]) else none
    | _=>none
   | _,_=>none
  | none=>none
 | .mapUpdate t m k y=>match Qb P t with
  | some _=>match Aa S.fr m,Aa S.fr k,Aa S.fr y with
   | .mri j 0,.int .i64 x,.mri j' 1=>match S.h[j]? with
    | some (some (.mo (.rows f (some (x',L,_)))))=>if j'=j then some (⟨D9 S.fr o.dst P4,S.h.set j (some (.mo (.rows (Gn f x' L) none)))⟩,[x'=x]) else none
    | _=>none
   | _,_,_=>none
  | none=>none
 | .call c=>match c.callee with
  | .builtin .append=>match c.args.toList with
   | [x,y]=>match c.argTypes.toList with
    | [t,t']=>if t=t' then match KU P t with
     | some (.ints,_,i,_)=>if 128<i.bytes then none else match Aa S.fr x,Rb S (Aa S.fr y) with
      | .mse j 1 off n,some (ys,vy)=>match S.h[j]? with
       | some (some (.ints xs))=>some (⟨D9 S.fr o.dst (.mse S.h.length 1 0 (n+ys.length)),S.h.set j none++[some (.ints (xs.drop off++ys))]⟩,[vy,0<ys.length,off+n=xs.length,n+ys.length<=BE])
       | _=>none
      | .mri j 1,some (ys,vy)=>match S.h[j]? with
       | some (some (.mo (.rows f (some (x',L,_)))))=>some (⟨D9 (S.fr.map (OW j S.h.length)) o.dst (.mri S.h.length 1),S.h.set j none++[some (.mo (.rows f (some (x',L++ys,true))))]⟩,[vy,0<ys.length,L.length+ys.length<=BE])
       | _=>none
      | _,_=>none
     | _=>none
     else none
    | _=>none
   | _=>none
  | _=>none
 | _=>none
theorem rF {P:Program} {S:St} {o:Oper} {r:St×List Prop} (h:Qc P S o=some r) {t:TypeId} {x y:Operand}:o.op≠.store t x y:=by
 intro e;unfold Qc at h;rw [e] at h;cases h
theorem CA.map {M:Nat -> Prop} {w:World} {ρ:List AJ} {fr:List DV} {t:Array Value} (h:CA M w ρ fr t) {g:DV -> DV} (hg: ∀ d v,AK M w d ρ v -> AK M w (g d) ρ v):CA M w ρ (fr.map g) t:=
 ⟨by simp [h.1],fun i hi=>by
  have BD:i<fr.length:=by simpa using hi
  have e:(fr.map g).getD i .any=g (fr.getD i .any):=by simp [BD]
  rw [e];exact hg _ _ (h.2 i BD)⟩
section
variable {P:Program} {Γ:A1} {N:Nat -> Prop} {S:St} {ρ:List AJ} {a:Act} {w w':World} {p p':AJ} {f:Int -> List Int} {Bu:Option (Int×List Int×Bool)} {u:Value} {es:Array MapEntry} {AX:Nat}
theorem gM (h:Ed w p f Bu u es AX) {kt:TypeId} (hk:P.underlying kt=some (.int .i64)) (x:Int):
 ((Instr.findKey kt (.int .i64 x) es.toList).run P w= .ok none w/\ ∀ e∈es.toList,e.key≠.int .i64 x)∨∃ j e,(Instr.findKey kt (.int .i64 x) es.toList).run P w= .ok (some (j,e.val)) w/\ es[j]? =some e/\ e.key= .int .i64 x:=by
 rcases MapKept.findNow_spec (d:=.int .i64) (k:=.int .i64 x) (by trivial) es.toList 0 (fun e hm=>by
  obtain ⟨k,hk,_⟩:=h.key e hm;rw [hk];trivial) with ⟨h1,h2⟩ | ⟨j,e,h1,h2,h3⟩
 ·exact .inl ⟨zE6 hk h1,h2⟩
 ·exact .inr ⟨j,e,by have:=zE6 (w:=w) hk h1;rw [zC4] at this;exact this,by simpa using h2,h3⟩
theorem Um (R:Ac P Γ N S ρ a w) {j i:Nat} {v:Value} (hk:S.h[j]? =some (some (.mo (.rows f Bu)))) (hv:AK (MS N S.h ρ) w (.mri j i) ρ v): ∃ p u es AX,ρ[j]? =some p/\ Ed w p f Bu u es AX/\ (#[Value.map (some p.blk),u]:Array Value)[i]? =some v:=by
 obtain ⟨p,vs,hp,Fv,Cc⟩:=hv;obtain ⟨p',A2,u,es,AX,h1⟩:=R.hr.obj j _ hk;have:p'=p:=zCq (A2.symm.trans hp);subst this;have: #[Value.map (some p'.blk),u]=vs:=by have:=h1.val.symm.trans Fv;cases this;rfl
 subst this;exact ⟨p',u,es,AX,hp,h1,Cc⟩
theorem Ed.lies (h:Ed w p f Bu u es AX):DW w p.blk:=⟨_,rfl,(),h.blk⟩
theorem eh (R:Ac P Γ N S ρ a w) {j:Nat} (hj:S.h[j]? =some (some (.mo (.rows f Bu)))) (hp:ρ[j]? =some p) (hO:Ed w p f Bu u es AX) {f':Int -> List Int} {Ij:Option (Int×List Int×Bool)} {u':Value} {D0:Array MapEntry} {Eo:Nat}
 (hu:AO p.foot w w') (hf: ∀ b,p'.foot b -> (p.foot b∨w.heap.size<=b)/\ DW w' b) (NL:Ed w' p' f' Ij u' D0 Eo) (aR:p'.blk=p.blk) (dst:Option Nat):
 ∃ ρ',Ac P Γ N ⟨D9 (S.fr.map (OW j S.h.length)) dst (.mri S.h.length 1),S.h.set j none++[some (.mo (.rows f' Ij))]⟩ ρ' (a.put dst u') w'/\ C5 S.h ρ w (S.h.set j none++[some (.mo (.rows f' Ij))]) ρ' w':=by
 obtain ⟨g1,g2⟩:=R.hr.regrow (o':=.mo (.rows f' Ij)) hj hp hu hf ⟨u',D0,Eo,NL⟩;have EZ: ∀ (k:Nat) (q:AJ),ρ[k]? =some q -> (ρ++[p'])[k]? =some q:=fun k q hk=>Dz hk
 have O:BV (MS N S.h ρ) w ρ (MS N (S.h.set j none++[some (.mo (.rows f' Ij))]) (ρ++[p'])) w' (ρ++[p']):=
  ⟨fun b hb hm _=>hu.block b hb fun hx=>hm (.inr ⟨j,_,p,hj,hp,hx⟩),fun b hb=>hb.elim (fun h=>.inl (.inl h)) (fun h=>(g2.grow b h).imp .inr id),EZ⟩
 have hq:(ρ++[p'])[S.h.length]? =some p':=by rw [←R.hr.len];simp
 have Dx:=(R.fr.out O).map (g:=OW j S.h.length) (fun d v hd=>by
  unfold OW;split
  ·rename_i k i;split
   ·rename_i e;split
    ·rename_i e2;subst e e2;obtain ⟨q,vs,h1,h2,h3⟩:=hd;have:q=p:=zCq (h1.symm.trans (EZ _ _ hp));subst this;have e3: #[Value.map (some q.blk),u]=vs:=by have:=hO.val.symm.trans h2;cases this;rfl
     subst e3;exact ⟨p',_,hq,NL.val,by rw [aR];simpa using h3⟩
    ·trivial
   ·exact hd
  ·exact hd)
 exact ⟨ρ++[p'],IF (S:=⟨S.fr.map (OW j S.h.length),_⟩) ⟨g1,Dx⟩ dst ⟨p',_,hq,NL.val,rfl⟩,g2,EZ⟩
theorem tK (h:Ed w p f Bu u es AX) (hh: ∀ k L,Bu≠some (k,L,true)) {t kt et:TypeId} (hm:P.underlying t=some (.map kt et)) (hk:GI P kt=some 1) (hz:(zeroValue et).run P w= .ok (.slice none 0 0) w) (x:Int):
 ∃ u',(Instr.lookup t (.map (some p.blk)) (.int .i64 x) false).run P w= .ok u' w/\ Ed w { p with val:=.tuple #[Value.map (some p.blk),u'] } f (some (x,f x,false)) u' es AX:=by
 have hu:P.underlying kt=some (.int .i64):=by
  rcases Oc hk with ⟨_,hu⟩ | ⟨_,_,_,h2,_⟩
  ·exact hu
  ·cases h2
 have hc:=fun e=>Ob (w:=w) hk (x:=[x]) rfl e
 have mk: ∀ u',(HK w (fun b=>p.foot b/\ b≠p.blk) u' (f x)/\ ∀ e∈es.toList,∀ b,C8 u'=some b -> C8 e.val=some b -> e.key= .int .i64 x) -> Ed w { p with val:=.tuple #[Value.map (some p.blk),u'] } f (some (x,f x,false)) u' es AX:=fun u' Be=>
  ⟨rfl,h.blk,h.own,fun e he=>let ⟨k,h1,h2⟩:=h.key e he;⟨k,h1,fun _=>h2 fun L=>hh k L⟩,h.no,h.nd,h.apart,h.born,h.stamps,fun k L g e=>by cases e;exact Be⟩
 rcases gM h hu x with ⟨h1,h2⟩ | ⟨j,e,h1,h2,h3⟩
 ·refine ⟨.slice none 0 0,?_,mk _ ⟨.inl ⟨h.no x h2,rfl⟩,fun e _ b hb=>by cases hb⟩⟩;have Hr:=hc es.isEmpty;simp only [BG] at Hr;simp [Instr.lookup,zDY hm,zD1 h.blk,Hr,h1,hz,Result.andThen]
 ·have CE:e∈es.toList:=zFR.2 (zEU h2);obtain ⟨k,g1,g2⟩:=h.key e CE;have:k=x:=by rw [g1] at h3;cases h3;rfl
  subst this;refine ⟨e.val,?_,mk _ ⟨g2 fun L=>hh k L,fun e' HA b hb C4=>(h.apart e' HA e CE b C4 hb).trans h3⟩⟩;have Hr:=hc es.isEmpty;simp only [BG] at Hr;simp [Instr.lookup,zDY hm,zD1 h.blk,Hr,h1,Result.andThen]
theorem d9 {F:Nat -> Prop} {L:List Int} (hs:HK w F u L) {t e ty:TypeId} {i:TypeInfo} {z:Value} (hu:P.underlying t=some (.slice e)) (hi:P.info? e=some i) (hz:i.zero=some z) (Az:i.size=1) (Cb:z.cells.size=i.size) (Dc:i.bytes<=128)
 {vy:Value} {ys:List Int} (hy:Src P i.size t vy ys.length (ys.map (Value.int .i64)) w) (hc:0<ys.length) (hb:L.length+ys.length<=BE):
 ∃ w' q By,(Builtin.append_ #[t,t] ty #[u,vy]).run P w= .ok (.slice (some ⟨q.blk,q.off,none⟩) (L++ys).length By) w'/\ (L++ys).length<=By/\ q.off+By<=q.room/\ AO (fun b=>C8 u=some b) w w'/\ (C8 u=some q.blk∨w.heap.size<=q.blk)/\ Ab w' q (L++ys).length (fun j v=>v= .int .i64 ((L++ys).getD j 0)):=by
 have Ah:(L++ys).length=L.length+ys.length:=zDC;rcases hs with ⟨rfl,rfl⟩ | ⟨q,cap,rfl,h1,h2,h3,h4,h5⟩
 ·obtain ⟨w',By,r1,r2,cs,rfl,r4,r5⟩:=bg none (ty:=ty) hu hi hz Cb Dc hy hc (by unfold BE at hb;simp at hb;omega);rw [Az,zDf] at r4;refine ⟨_,EC w cs.size,By,by simpa [EC] using r1,by simpa using r2,by simp [EC,r4],AO.ofExt ((Ar.toDrew w).allocR _),.inr (zC6 _),MM rfl (by simp;omega) fun j hj=>?_⟩;have A3:j<ys.length:=by simpa using hj
  refine ⟨.int .i64 (ys.getD j 0),?_,by simp⟩;rw [r5 j (by rw [Az,zDf];exact A3)];simp [A3]
 ·obtain ⟨w',q',By,r1,r2,r3,r4,r5,r6⟩:=be (ty:=ty) (R:=fun j v=>v= .int .i64 (L.getD j 0)) (cap:=cap) hu hi hz (by omega) Cb Dc (by rw [Az,zDf];exact h5) h1 (by rw [Az,zDf];exact h2) hy (by unfold BE at hb;omega);rw [Az,zDf] at r3;have hq:q.foot=(fun b=>b=q.blk):=h5.1;have hR:=ZF (P:=P) (M:=fun _=>False) (ρ':=[]) Az r6;refine ⟨w',q',By,by rw [Ah];exact r1,by rw [Ah];exact r2,r3,r4.mono fun b _ hb=>by rw [hq] at hb;rw [show b=q.blk from hb];rfl,?_,hR⟩;have M6:=r6.1;rcases r5 q'.blk (by rw [M6]) with e | e
  ·rw [hq] at e;exact .inl (by rw [show q'.blk=q.blk from e];rfl)
  ·exact .inr e
theorem tL (h:Ed w p f Bu u es AX) {x:Int} {L:List Int} {g:Bool} (JQ:Bu=some (x,L,g)) (hl: ∀ b,p.foot b -> DW w b) {t e ty:TypeId} {i:TypeInfo} {z:Value} (hu:P.underlying t=some (.slice e)) (hi:P.info? e=some i) (hz:i.zero=some z) (Az:i.size=1) (Cb:z.cells.size=i.size) (Dc:i.bytes<=128)
 {vy:Value} {ys:List Int} (hy:Src P i.size t vy ys.length (ys.map (Value.int .i64)) w) (hc:0<ys.length) (hb:L.length+ys.length<=BE):
 ∃ w' u' p',(Builtin.append_ #[t,t] ty #[u,vy]).run P w= .ok u' w'/\ AO p.foot w w'/\ (∀ b,p'.foot b -> (p.foot b∨w.heap.size<=b)/\ DW w' b)/\ Ed w' p' f (some (x,L++ys,true)) u' es AX/\ p'.blk=p.blk:=by
 obtain ⟨hs,hd⟩:=h.inHand x L g JQ;have Ah:(L++ys).length=L.length+ys.length:=zDC;have Yq:=d9 (ty:=ty) hs hu hi hz Az Cb Dc hy hc hb;obtain ⟨w',q,By,r1,r2,r3,r4,r5,r6⟩:=Yq;have L8: ∀ b,C8 u=some b -> (p.foot b/\ b≠p.blk)/\ b<w.heap.size:=fun b hb=>hs.blk hb
 have keep: ∀ b,b<w.heap.size -> C8 u≠some b -> w'.heap[b]? =w.heap[b]? :=fun b hb hn=>r4.block b hb hn
 have M7:C8 u≠some p.blk:=fun e=>(L8 _ e).1.2 rfl
 have Zn:p.blk<w.heap.size:=(zCl.1 h.blk).1;have Zl:q.blk≠p.blk:=fun e=>r5.elim (fun e'=>M7 (by rw [←e];exact e')) (fun e'=>by omega)
 refine ⟨w',_,⟨p.blk,p.off,p.room,.tuple #[Value.map (some p.blk),.slice (some ⟨q.blk,q.off,none⟩) (L++ys).length By],fun b=>(p.foot b/\ C8 u≠some b)∨b=q.blk⟩,r1,r4.mono fun b _ hb=>(L8 b hb).1.1,fun b hb=>?_,?_,rfl⟩
 ·rcases hb with ⟨g1,g2⟩ | g1
  ·obtain ⟨c,t1,t2,hc⟩:=hl b g1;exact ⟨.inl g1,c,t1,t2,(keep b (zCl.1 hc).1 g2).trans hc⟩
  ·obtain ⟨_,cs,tt,g,_⟩:=r6;subst g1;exact ⟨r5.imp (fun e=>(L8 _ e).1.1) id,.cells g⟩
 ·have FF: ∀ e'∈es.toList,∀ k,e'.key= .int .i64 k -> k≠x -> HK w (fun b=>p.foot b/\ b≠p.blk) e'.val (f k):=fun e' he k hk KJ=>by
   obtain ⟨k',h1,h2⟩:=h.key e' he;have:k'=k:=by rw [h1] at hk;cases hk;rfl
   subst this;exact h2 fun L' e=>by rw [JQ] at e;cases e;exact KJ rfl
  refine ⟨rfl,(keep _ Zn M7).trans h.blk,.inl ⟨h.own,M7⟩,fun e' he=>?_,h.no,h.nd,h.apart,h.born,h.stamps,fun k L' g' e'=>?_⟩
  ·obtain ⟨k,h1,_⟩:=h.key e' he;refine ⟨k,h1,fun hn=>?_⟩;have hk:k≠x:=fun e=>by subst e;exact hn _ rfl
   have ne: ∀ b,C8 e'.val=some b -> C8 u≠some b:=fun b hb C4=>hk (by have:=hd e' he b C4 hb;rw [h1] at this;cases this;rfl)
   exact (FF e' he k h1 hk).out (fun b hf hb hl=>keep b hl (ne b hb)) fun b hf hb=>⟨.inl ⟨hf.1,ne b hb⟩,hf.2⟩
  ·cases e';refine ⟨.inr ⟨q,By,rfl,r2,r3,by unfold LB;unfold BE at hb;omega,⟨.inr rfl,Zl⟩,r6⟩,fun e' he b hb C4=>?_⟩;cases hb;rcases r5 with r5 | r5
   ·exact hd e' he _ r5 C4
   ·obtain ⟨k',h1,_⟩:=h.key e' he
    by_cases hk:k'=x
    ·subst hk;exact h1
    ·exact absurd ((FF e' he k' h1 hk).blk C4).2 (Nat.not_lt.2 r5)
theorem tJ (h:Ed w p f Bu u es AX) {x:Int} {L:List Int} {g:Bool} (JQ:Bu=some (x,L,g)) {t kt et:TypeId} (hm:P.underlying t=some (.map kt et)) (hk:GI P kt=some 1):
 ∃ w' D0 Eo,(Instr.mapUpdate t (.map (some p.blk)) (.int .i64 x) u).run P w= .ok () w'/\ AO (fun b=>b=p.blk) w w'/\ Ed w' p (Gn f x L) none u D0 Eo:=by
 have hu:P.underlying kt=some (.int .i64):=by
  rcases Oc hk with ⟨_,hu⟩ | ⟨_,_,_,h2,_⟩
  ·exact hu
  ·cases h2
 have hc:=Ob (w:=w) hk (x:=[x]) rfl false;simp only [BG] at hc;obtain ⟨hs,hd⟩:=h.inHand x L g JQ;have AL:p.blk<w.heap.size:=(zCl.1 h.blk).1
 have mk: ∀ (D0:Array MapEntry) (Eo:Nat),(∀ e∈D0.toList,(e.key= .int .i64 x/\ e.val=u)∨(e∈es.toList/\ e.key≠.int .i64 x)) -> (∃ e∈D0.toList,e.key= .int .i64 x) -> (∀ e∈es.toList,e.key≠.int .i64 x -> e∈D0.toList) -> MapKept.Stamped D0 Eo ->
  Ed { w with heap:=w.heap.setIfInBounds p.blk (.map D0 Eo) } p (Gn f x L) none u D0 Eo:=fun D0 Eo m1 m2 m3 st=>by
  have stay: ∀ b,b≠p.blk -> (w.heap.setIfInBounds p.blk (.map D0 Eo))[b]? =w.heap[b]? :=fun b hb=>by simp [zEy hb]
  have FF: ∀ e'∈es.toList,∀ k,e'.key= .int .i64 k -> k≠x -> HK w (fun b=>p.foot b/\ b≠p.blk) e'.val (f k):=fun e' he k hk KJ=>by
   obtain ⟨k',h1,h2⟩:=h.key e' he;have:k'=k:=by rw [h1] at hk;cases hk;rfl
   subst this;exact h2 fun L' e=>by rw [JQ] at e;cases e;exact KJ rfl
  refine ⟨h.val,by simp [AL],h.own,fun e he=>?_,fun k Cv=>?_,st.2.2,fun e he e' HA b hb C4=>?_,st.1,st.2.1,fun k L' g' e=>by cases e⟩
  ·rcases m1 e he with ⟨a1,a2⟩ | ⟨a1,a2⟩
   ·refine ⟨x,a1,fun _=>?_⟩;rw [a2];unfold Gn;rw [zB3 rfl];exact hs.out (fun b hf _ _=>stay b hf.2) fun _ h _=>h
   ·obtain ⟨k,h1,_⟩:=h.key e a1;have KJ:k≠x:=fun e'=>a2 (by rw [h1,e'])
    refine ⟨k,h1,fun _=>?_⟩;unfold Gn;rw [zCt KJ];exact (FF e a1 k h1 KJ).out (fun b hf _ _=>stay b hf.2) fun _ h _=>h
  ·have KJ:k≠x:=fun e=>by subst e;obtain ⟨e,h1,h2⟩:=m2;exact Cv e h1 h2
   unfold Gn;rw [zCt KJ];refine h.no k fun e he jQ=>?_
   exact Cv e (m3 e he fun h=>KJ (by rw [jQ] at h;cases h;rfl)) jQ
  ·rcases m1 e he with ⟨a1,a2⟩ | ⟨a1,a2⟩
   ·rcases m1 e' HA with ⟨b1,b2⟩ | ⟨b1,b2⟩
    ·rw [a1,b1]
    ·rw [a2] at hb;exact a1.trans (hd e' b1 b hb C4).symm
   ·rcases m1 e' HA with ⟨b1,b2⟩ | ⟨b1,b2⟩
    ·rw [b2] at C4;exact (hd e a1 b C4 hb).trans b1.symm
    ·exact h.apart e a1 e' b1 b hb C4
 have st:MapKept.Stamped es AX:=⟨h.born,h.stamps,h.nd⟩;rcases gM h hu x with ⟨h1,h2⟩ | ⟨j,e,h1,h2,h3⟩
 ·refine ⟨_,es.push { key:=.int .i64 x,val:=u,born:=AX },AX+1,?_,Px _,mk _ _ (fun e he=>?_) ⟨{ key:=.int .i64 x,val:=u,born:=AX },by simp,rfl⟩ (fun e he _=>by simp [zFR.1 he]) (MapKept.stamped_push st h2)⟩
  ·simp [Instr.mapUpdate,zDY hm,zD1 h.blk,hc,h1,zEg _ h.blk,Result.andThen]
  ·simp only [Array.toList_push,zC9,zC2] at he;rcases he with he | rfl
   ·exact .inr ⟨he,h2 e he⟩
   ·exact .inl ⟨rfl,rfl⟩
 ·have EG:((es[j]?).map (·.key)).getD (.int .i64 x)= .int .i64 x:=by rw [h2];exact h3
  have EY:=MapKept.run_keyThatStays (P:=P) (w:=w) (d:=.int .i64) (k:=.int .i64 x) (by trivial);have hj:j<es.size:=(zCl.1 h2).1
  have inj: ∀ (m:Nat) (e':MapEntry),es[m]? =some e' -> e'.key= .int .i64 x -> m=j:=fun m e' CE Cv=>by
   have Fe:m<es.size:=(zCl.1 CE).1;have g1:(es.toList.map (·.key))[m]? =some (.int .i64 x):=by simp [CE,Cv]
   have g2:(es.toList.map (·.key))[j]? =some (.int .i64 x):=by simp [h2,h3]
   exact (List.getElem?_inj (by simpa using Fe) h.nd).1 (g1.trans g2.symm)
  have Ig: ∀ (m:Nat),(es.modify j fun e=>{ e with key:=.int .i64 x,val:=u })[m]? =if j=m then (es[m]?).map (fun e=>{ e with key:=.int .i64 x,val:=u }) else es[m]? :=fun m=>zEW
  refine ⟨_,es.modify j fun e=>{ e with key:=.int .i64 x,val:=u },AX,?_,Px _,mk _ _ (fun e1 aJ=>?_) ⟨{ e with key:=.int .i64 x,val:=u },?_,rfl⟩ (fun e1 aJ AY=>?_) (MapKept.stamped_modify st _ _ (fun _ _=>rfl) fun e' _ HA=>by rw [h2] at HA;cases HA;exact h3.symm)⟩
  ·simp [Instr.mapUpdate,zDY hm,zD1 h.blk,hc,h1,EG,EY,zEg _ h.blk,Result.andThen]
  ·obtain ⟨m,CE⟩:=zEm.1 aJ;rw [zEn,Ig] at CE;split at CE
   ·rename_i aD;subst aD;rw [h2] at CE;cases CE;exact .inl ⟨rfl,rfl⟩
   ·rename_i aD;exact .inr ⟨zFR.2 (zEU CE),fun Cv=>aD (inj m e1 CE Cv).symm⟩
  ·exact zEm.2 ⟨j,by rw [zEn,Ig,zB3 rfl,h2];rfl⟩
  ·obtain ⟨m,CE⟩:=zEm.1 aJ;rw [zEn] at CE;refine zEm.2 ⟨m,by rw [zEn,Ig,zCt];exact CE;rintro rfl;rw [h2] at CE;cases CE;exact AY h3⟩
theorem uC (R:Ac P Γ N S ρ a w) {j off n:Nat} {xs:List Int} {v:Value} (hO:S.h[j]? =some (some (.ints xs))) (hv:AK (MS N S.h ρ) w (.mse j 1 off n) ρ v) (hn:off+n=xs.length) {t e ty:TypeId} {i:TypeInfo} {z:Value} (hu:P.underlying t=some (.slice e)) (hi:P.info? e=some i) (hz:i.zero=some z) (Az:i.size=1) (Cb:z.cells.size=i.size) (Dc:i.bytes<=128)
 {vy:Value} {ys:List Int} (hy:Src P i.size t vy ys.length (ys.map (Value.int .i64)) w) (hc:0<ys.length) (hb:n+ys.length<=BE):
 ∃ u w' p' By,v=u/\ (Builtin.append_ #[t,t] ty #[u,vy]).run P w= .ok (.slice (some ⟨p'.blk,p'.off,none⟩) (n+ys.length) By) w'/\ n+ys.length<=By/\ p'.off+By<=p'.room/\ (∃ p,ρ[j]? =some p/\ AO p.foot w w'/\ ∀ b,p'.foot b -> (p.foot b∨w.heap.size<=b)/\ DW w' b)/\
  (∀ {M ρ'},DU P M w' ρ' p' (.ints (xs.drop off++ys)))/\ True:=by
 obtain ⟨p,ad,cap,hp,rfl,h1,h2,h3⟩:=hv;obtain ⟨p2,M8,hr⟩:=R.hr.obj j _ hO;have:p2=p:=zCq (M8.symm.trans hp);subst this;have NG:(xs.drop off).length=n:=by simp;omega
 have Yq: ∃ w' p' By,(Builtin.append_ #[t,t] ty #[.slice ad n cap,vy]).run P w= .ok (.slice (some ⟨p'.blk,p'.off,none⟩) (n+ys.length) By) w'/\ n+ys.length<=By/\ p'.off+By*i.size<=p'.room/\ AO p2.foot w w'/\ (∀ b,p'.foot b -> p2.foot b∨w.heap.size<=b)/\ Ab w' p' ((n+ys.length)*i.size) (Hx (n*i.size) (fun j u=>u= .int .i64 ((xs.drop off).getD j 0)) (ys.map (Value.int .i64))):=by
  by_cases La:cap=0
  ·subst La;have Fd:n=0:=by omega
   subst Fd;obtain ⟨w',By,r1,r2,cs,rfl,r4,r5⟩:=bg ad (ty:=ty) hu hi hz Cb Dc hy hc (by unfold BE at hb;omega);refine ⟨_,EC w cs.size,By,by simpa [EC] using r1,by omega,by simp [EC,r4],AO.ofExt ((Ar.toDrew w).allocR _),fun b hb=>.inr (zFW (Eq.symm hb)),MM rfl ?_ fun j hj=>?_⟩
   ·rw [r4];exact zD5 _ (by omega)
   ·rw [zC4] at hj;refine ⟨(ys.map (Value.int .i64)).getD j undef,?_,?_⟩
    ·rw [r5 j hj];rw [Az,zDf] at hj;simp [hj]
    ·rw [Az,zDf] at hj;unfold Hx;rw [zCt (by omega)];simp [hj]
  ·obtain ⟨rfl,h4⟩:=h3 (by omega);obtain ⟨c1,cs,tt,c2,c3,c4,c5⟩:=hr
   exact be (ty:=ty) (p:={ p2 with off:=p2.off+off*1 }) (cap:=cap) hu hi hz (by omega) Cb Dc (R:=fun j u=>u= .int .i64 ((xs.drop off).getD j 0)) (by
    refine ⟨c1,cs,tt,c2,?_,c4,fun j hj=>?_⟩
    ·rw [Az];show p2.off+off*1+n*1<=cs.size;omega
    ·rw [Az,zDf] at hj;obtain ⟨u,q1,q2⟩:=c5 (off+j) (by omega);refine ⟨u,by show cs[p2.off+off*1+j]? =_;rw [show p2.off+off*1+j=p2.off+(off+j) by omega];exact q1,?_⟩;rw [q2];simp [u8]) h1 (by rw [Az];simpa using h4) hy (by unfold BE at hb;omega)
 obtain ⟨w',p',By,r1,r2,r3,r4,r5,r6⟩:=Yq;rw [Az,zDf] at r3;refine ⟨_,w',p',By,rfl,r1,r2,r3,⟨p2,hp,r4,fun b hb=>⟨r5 b hb,?_⟩⟩,fun {M ρ'}=>ZF (xs:=xs.drop off) (ys:=ys) Az (by rw [NG];exact r6),trivial⟩;obtain ⟨e1,cs,tt,e2,_⟩:=r6;rw [e1] at hb;exact .cells (c:=cs) (t:=tt) (z:=(0,0)) (by rw [show b=p'.blk from hb];exact e2)
theorem rD (R:Ac P Γ N S ρ a w) {o:Oper} {S':St} {vs:List Prop} (h:Qc P S o=some (S',vs)) (hv:Bm vs):
 BM P (execOp a.eval o) w (fun v w'=>∃ ρ',Ac P Γ N S' ρ' (a.put o.dst v) w'/\ C5 S.h ρ w S'.h ρ' w'):=by
 unfold Qc at h;split at h
 ·rename_i t ho;split at h
  ·rename_i r hT;cases h;refine BM.value (s:=Instr.makeMap t none) (by unfold execOp;rw [ho];rfl) (v:=.map (some w.heap.size)) (w':=w.alloc (.map #[] 0)) (by simp [Instr.makeMap,newObj];rfl) ?_;have G:=SH (ob:=.map #[] 0) (o:=.mo (.rows (fun _=>[]) none)) (d:=.mri S.h.length 0) (v:=.map (some w.heap.size)) (pl:=⟨w.heap.size,0,0,.tuple #[.map (some w.heap.size),undef],fun b=>b=w.heap.size⟩) R.hr rfl rfl (fun M ρ'=>⟨undef,#[],0,rfl,zES w _,rfl,fun e he=>absurd he (by simp),fun _ _=>rfl,by simp,fun e he=>absurd he (by simp),fun e he=>absurd he (by simp),by simp,fun k L g e=>by cases e⟩) (fun M ρ' hp=>⟨_,_,hp,rfl,rfl⟩) true;exact NO R o.dst G fun _ _ h=>h
  ·cases h
 ·rename_i t m k ho;split at h
  ·rename_i r hT;obtain ⟨kt,et⟩:=r;obtain ⟨hu,hk,hz⟩:=ew hT;have rm:=Bo R m;have rk:=Bo R k;split at h
   ·rename_i j x hM hK;split at h
    ·rename_i f Bu hO;split at h
     ·rename_i hh;cases h;rw [hM] at rm;rw [hK] at rk;obtain ⟨p,u,es,AX,hp,hA,Cc⟩:=Um R hO rm;have em:a.eval m= .map (some p.blk):=by simpa using Cc.symm
      have ek:a.eval k= .int .i64 x:=rk;obtain ⟨u',g1,g2⟩:=tK hA (fun k L e=>by subst e;simp at hh) hu hk (hz w) x;refine BM.value (s:=Instr.lookup t (a.eval m) (a.eval k) false) (by unfold execOp;rw [ho]) (by rw [em,ek];exact g1) ?_;exact eh (p':={ p with val:=.tuple #[Value.map (some p.blk),u'] }) R hO hp hA (AO.refl _ _) (fun b hb=>⟨.inl hb,(R.hr.cel j _ p b hO hp hb).2.2⟩) g2 rfl o.dst
     ·cases h
    ·cases h
   ·cases h
  ·cases h
 ·rename_i t m k y ho;split at h
  ·rename_i r hT;obtain ⟨kt,et⟩:=r;obtain ⟨hu,hk,hz⟩:=ew hT;have rm:=Bo R m;have rk:=Bo R k;have ry:=Bo R y;split at h
   ·rename_i j x j' hM hK hY;split at h
    ·rename_i f x' L g hO;split at h
     ·rename_i hj;cases h;subst hj;have hx:x'=x:=hv.1;subst hx;rw [hM] at rm;rw [hK] at rk;rw [hY] at ry;obtain ⟨p,u,es,AX,hp,hA,Cc⟩:=Um R hO rm;obtain ⟨p2,u2,es2,clock2,M8,zd,wO⟩:=Um R hO ry;have:p2=p:=zCq (M8.symm.trans hp);subst this;have eu:u2=u:=by have:=zd.val.symm.trans hA.val;simp at this;exact this
      have em:a.eval m= .map (some p2.blk):=by simpa using Cc.symm
      have ek:a.eval k= .int .i64 x':=rk;have ey:a.eval y=u:=by rw [←eu];simpa using wO.symm
      obtain ⟨w',D0,Eo,g1,g2,g3⟩:=tJ hA rfl hu hk;refine BM.skip (s:=Instr.mapUpdate t (a.eval m) (a.eval k) (a.eval y)) (by unfold execOp;rw [ho]) (w':=w') (by rw [em,ek,ey];exact g1) ?_;have LS:AO p2.foot w w':=g2.mono fun b _ hb=>by rw [show b=p2.blk from hb];exact hA.own
      have hl: ∀ b,p2.foot b -> DW w' b:=fun b hb=>by
       by_cases e:b=p2.blk
       ·rw [e];exact g3.lies
       ·obtain ⟨c,t1,t2,hc⟩:=(R.hr.cel _ _ p2 b hO hp hb).2.2;exact ⟨c,t1,t2,(g2.block b (zCl.1 hc).1 e).trans hc⟩
      have G:DJ P Γ N S.h ρ w false P4 (S.h.set j' (some (.mo (.rows (Gn f x' L) none)))) undef w':=⟨⟨ρ,R.hr.write hO hp LS hl ⟨u,D0,Eo,g3⟩,TZ,BH.write hO hp LS,fun _ _ h=>h⟩,fun h=>by cases h⟩;exact NO R o.dst G fun _ _ h=>h
     ·cases h
    ·cases h
   ·cases h
  ·cases h
 ·rename_i c ho;split at h
  ·rename_i hc;split at h
   ·rename_i x y ha;split at h
    ·rename_i t t' ht;split at h
     ·rename_i e;subst e;split at h
      ·rename_i e i z hk;obtain ⟨hu,hi,hz,h0,Cb,EG,_⟩:=SX hk;have Co:i.size=1:=EG.symm;split at h
       ·cases h
       ·rename_i Dc;have rx:=Bo R x;have ry:=Bo R y;split at h
        ·rename_i j off n ys vy hX hY;split at h
         ·rename_i xs hO;cases h;obtain ⟨v1,v2,v3,v4,_⟩:=hv;rw [hX] at rx;obtain ⟨ad,w',p',By,e0,g1,g2,g3,g4,g5,_⟩:=uC (ty:=o.type) R hO rx v3 hu hi hz Co Cb (by omega) (by rw [Co];exact Ra R hu ry hY v1) v2 v4;refine BM.value (SR ho hc ha ht) (by rw [e0];exact g1) ?_;obtain ⟨p,hp⟩:=g4;obtain ⟨q1,q2⟩:=R.hr.regrow (o':=.ints (xs.drop off++ys)) hO hp.1 hp.2.1 hp.2.2 g5
          have G:DJ P Γ N S.h ρ w false (.mse S.h.length 1 0 (n+ys.length)) (S.h.set j none++[some (.ints (xs.drop off++ys))]) (.slice (some ⟨p'.blk,p'.off,none⟩) (n+ys.length) By) w':=
           ⟨⟨ρ++[p'],q1,⟨p',_,By,by rw [←R.hr.len];simp,rfl,g2,by unfold LB;unfold BE at v4;omega,fun _=>⟨by simp,by simpa using g3⟩⟩,q2,fun _ _ h=>Dz h⟩,fun h=>by cases h⟩
          exact NO R o.dst G fun _ _ h=>h
         ·cases h
        ·rename_i j ys vy hX hY;split at h
         ·rename_i f x' L g hO;cases h;obtain ⟨v1,v2,v3,_⟩:=hv;rw [hX] at rx;obtain ⟨p,u,es,AX,hp,hA,Cc⟩:=Um R hO rx;have ex:a.eval x=u:=by simpa using Cc.symm
          obtain ⟨w',u',p',g1,g2,g3,g4,g5⟩:=tL (ty:=o.type) hA rfl (fun b hb=>(R.hr.cel j _ p b hO hp hb).2.2) hu hi hz Co Cb (by omega) (by rw [Co];exact Ra R hu ry hY v1) v2 v3;refine BM.value (SR ho hc ha ht) (by rw [ex];exact g1) ?_;exact eh R hO hp hA g2 g3 g4 g5 o.dst
         ·cases h
        ·cases h
      ·cases h
     ·cases h
    ·cases h
   ·cases h
  ·cases h
 ·cases h
def XZ (P:Program) (S:St) (o:Oper):Option (St×List Prop):=match Xa P S o with
 | some r=>some r
 | none=>Qc P S o
theorem dk (R:Ac P Γ N S ρ a w) {o:Oper} {S':St} {vs:List Prop} (h:XZ P S o=some (S',vs)) (hv:Bm vs):
 BM P (execOp a.eval o) w (fun v w'=>(∃ ρ',Ac P Γ N S' ρ' (a.put o.dst v) w'/\ C5 S.h ρ w S'.h ρ' w')/\ ((∀ t x y,o.op≠.store t x y)∨∃ k i p t x y,o.op= .store t x y/\ Aa S.fr x= .mp k 1 i 0/\ ρ[k]? =some p/\ AO p.foot w w')):=by
 have wk: ∀ {G G':Value -> World -> Prop},(∀ v w',G v w' -> G' v w') -> BM P (execOp a.eval o) w G -> BM P (execOp a.eval o) w G':=fun hg D=>by
  rcases D with ⟨v,w',h1,h2⟩ | ⟨w',h1,h2⟩ | ⟨f,args,w',h1,h2⟩
  ·exact .inl ⟨v,w',h1,hg _ _ h2⟩
  ·exact .inr (.inl ⟨w',h1,hg _ _ h2⟩)
  ·exact .inr (.inr ⟨f,args,w',h1,h2.mono fun e CF ⟨v,e1,e2⟩=>⟨v,e1,hg _ _ e2⟩⟩)
 unfold XZ at h;split at h
 ·rename_i r hM;cases h;exact wk (fun v w' hx=>⟨hx.1,.inr hx.2⟩) (oL R hM hv)
 ·exact wk (fun v w' hx=>⟨hx,.inl fun t x y=>rF h⟩) (rD R h hv)
end
end Go.Proofs.YtgkhhfnhacibcaaGreatDoor
namespace Go.Proofs.YtgkhhfnhacibcaaGreatDoor
abbrev zDi:=@List.getElem?_set_ne
abbrev zEd:=@Array.getElem?_setIfInBounds_ne
end Go.Proofs.YtgkhhfnhacibcaaGreatDoor
namespace Go.Proofs.YtgkhhfnhacibcaaGreatDoor
open Go.RowKit
def Xs (P:Program) (t:TypeId):Option (TypeId×TypeInfo):=match P.underlying t with
 | some (.slice e)=>match P.info? e with
  | some i=>match i.zero with
   | some (.slice none 0 0)=>if i.size=1/\ i.bytes<=128 then some (e,i) else none
   | _=>none
  | none=>none
 | _=>none
theorem qT {P:Program} {t e:TypeId} {i:TypeInfo} (h:Xs P t=some (e,i)):P.underlying t=some (.slice e)/\ P.info? e=some i/\ i.zero=some (.slice none 0 0)/\ i.size=1/\ i.bytes<=128:=by
 unfold Xs at h;split at h
 ·rename_i e' hu;split at h
  ·rename_i i' hi;split at h
   ·rename_i hz;split at h
    ·rename_i hc;cases h;exact ⟨hu,hi,hz,hc.1,hc.2⟩
    ·cases h
   ·cases h
  ·cases h
 ·cases h
def OV (j q:Nat):DV -> DV
 | .msl k m o n=>if k=j then .msl q m o n else .msl k m o n
 | .mp k m i c=>if k=j then .mp q m i c else .mp k m i c
 | .mri k i=>if k=j then .any else .mri k i
 | d=>d
def Xt (P:Program) (S:St) (fz:List (Nat×Fz)) (o:Oper):Option (St×List Prop×List (Nat×Fz)):=match o.op with
 | .makeSlice t x y=>match fz with
  | (d,.rws)::rest=>if o.dst=some d then match Xs P t with
   | some _=>match Aa S.fr x,Aa S.fr y with
    | .int _ m,.int _ m'=>some (⟨D9 S.fr o.dst (.msl S.h.length 1 0 m.toNat),S.h++[some (.mo (.rws (List.replicate m.toNat []) none))]⟩,[m'=m/\ 0<=m/\ m<=1000000000000],rest)
    | _,_=>none
   | none=>none
   else none
  | _=>none
 | .call c=>match c.callee with
  | .builtin .append=>match c.args.toList with
   | [x,y]=>match c.argTypes.toList with
    | [t,t']=>if t=t' then match KU P t with
     | some (.ints,_,i,_)=>if 128<i.bytes then none else match Aa S.fr x,Rb S (Aa S.fr y) with
      | .mri j (r+1),some (ys,vy)=>match S.h[j]? with
       | some (some (.mo (.rws ls none)))=>some (⟨D9 (S.fr.map (OV j S.h.length)) o.dst (.mri S.h.length 0),S.h.set j none++[some (.mo (.rws ls (some (r,ls.getD r default++ys))))]⟩,[vy,0<ys.length,r<ls.length,(ls.getD r default).length+ys.length<=BE],fz)
       | _=>none
      | _,_=>none
     | _=>none
     else none
    | _=>none
   | _=>none
  | _=>none
 | .store t x y=>match o.dst with
  | none=>match Aa S.fr x,Aa S.fr y with
   | .mp j 1 r 0,.mri j' 0=>match S.h[j]? with
    | some (some (.mo (.rws ls (some (r',L)))))=>if j'=j/\ (P.info? t).any (fun i=>i.size==1)=true then some (⟨S.fr.map (OV j S.h.length),S.h.set j none++[some (.mo (.rws (ls.set r L) none))]⟩,[r'=r,r<ls.length],fz) else none
    | _=>none
   | _,_=>none
  | some _=>none
 | _=>none
section
variable {P:Program} {Γ:A1} {N:Nat -> Prop} {S:St} {ρ:List AJ} {a:Act} {w w':World} {p p':AJ} {ls RM:List (List Int)} {Bu Ij:Option (Nat×List Int)} {vs BY:Array Value}
theorem eQ (R:Ac P Γ N S ρ a w) {j i:Nat} {v:Value} (hk:S.h[j]? =some (some (.mo (.rws ls Bu)))) (hv:AK (MS N S.h ρ) w (.mri j i) ρ v): ∃ p vs,ρ[j]? =some p/\ JZ w p ls Bu vs/\ vs[i]? =some v:=by
 obtain ⟨p,vs,hp,Fv,Cc⟩:=hv;obtain ⟨p',A2,BY,h1⟩:=R.hr.obj j _ hk;have:p'=p:=zCq (A2.symm.trans hp);subst this;have:BY=vs:=by have:=h1.val.symm.trans Fv;cases this;rfl
 subst this;exact ⟨p',BY,hp,h1,Cc⟩
theorem eP (R:Ac P Γ N S ρ a w) {j:Nat} (hj:S.h[j]? =some (some (.mo (.rws ls Bu)))) (hp:ρ[j]? =some p) (hu:AO p.foot w w') (hf: ∀ b,p'.foot b -> (p.foot b∨w.heap.size<=b)/\ DW w' b) (NL:JZ w' p' RM Ij BY)
 (e1:p'.blk=p.blk) (e2:p'.off=p.off) (e3:p'.room=p.room) (dst:Option Nat) {d:DV} {v:Value} (hd: ∀ M ρ',ρ'[S.h.length]? =some p' -> AK M w' d ρ' v):
 ∃ ρ',Ac P Γ N ⟨D9 (S.fr.map (OV j S.h.length)) dst d,S.h.set j none++[some (.mo (.rws RM Ij))]⟩ ρ' (a.put dst v) w'/\ C5 S.h ρ w (S.h.set j none++[some (.mo (.rws RM Ij))]) ρ' w':=by
 obtain ⟨g1,g2⟩:=R.hr.regrow (o':=.mo (.rws RM Ij)) hj hp hu hf ⟨BY,NL⟩;have EZ: ∀ (k:Nat) (q:AJ),ρ[k]? =some q -> (ρ++[p'])[k]? =some q:=fun k q hk=>Dz hk
 have O:BV (MS N S.h ρ) w ρ (MS N (S.h.set j none++[some (.mo (.rws RM Ij))]) (ρ++[p'])) w' (ρ++[p']):=
  ⟨fun b hb hm _=>hu.block b hb fun hx=>hm (.inr ⟨j,_,p,hj,hp,hx⟩),fun b hb=>hb.elim (fun h=>.inl (.inl h)) (fun h=>(g2.grow b h).imp .inr id),EZ⟩
 have hq:(ρ++[p'])[S.h.length]? =some p':=by rw [←R.hr.len];simp
 have Dx:=(R.fr.out O).map (g:=OV j S.h.length) (fun d v hd=>by
  unfold OV;split
  ·rename_i k m o n;split
   ·rename_i e;subst e;obtain ⟨q,cap,h1,h2,h3,h4,h5⟩:=hd;have:q=p:=zCq (h1.symm.trans (EZ _ _ hp));subst this;exact ⟨p',cap,hq,by rw [e1,e2];exact h2,h3,h4,by rw [e2,e3];exact h5⟩
   ·exact hd
  ·rename_i k m i c;split
   ·rename_i e;subst e;obtain ⟨q,h1,h2⟩:=hd;have:q=p:=zCq (h1.symm.trans (EZ _ _ hp));subst this;exact ⟨p',hq,by rw [e1,e2];exact h2⟩
   ·exact hd
  ·split
   ·trivial
   ·exact hd
  ·exact hd)
 exact ⟨ρ++[p'],IF (S:=⟨S.fr.map (OV j S.h.length),_⟩) ⟨g1,Dx⟩ dst (hd _ _ hq),g2,EZ⟩
theorem qS (h:JZ w p ls none vs) {r:Nat} (hr:r<ls.length) (hl: ∀ b,p.foot b -> DW w b) {t e ty:TypeId} {i:TypeInfo} {z:Value} (hu:P.underlying t=some (.slice e)) (hi:P.info? e=some i) (hz:i.zero=some z) (Az:i.size=1) (Cb:z.cells.size=i.size) (Dc:i.bytes<=128)
 {vy:Value} {ys:List Int} (hy:Src P i.size t vy ys.length (ys.map (Value.int .i64)) w) (hc:0<ys.length) (hb:(ls.getD r default).length+ys.length<=BE):
 ∃ w' u' p',(Builtin.append_ #[t,t] ty #[vs.getD (r+1) undef,vy]).run P w= .ok u' w'/\ AO p.foot w w'/\ (∀ b,p'.foot b -> (p.foot b∨w.heap.size<=b)/\ DW w' b)/\ JZ w' p' ls (some (r,ls.getD r default++ys)) (vs.setIfInBounds 0 u')/\ p'.blk=p.blk/\ p'.off=p.off/\ p'.room=p.room:=by
 have hs:=h.has r hr fun L e=>by cases e
 obtain ⟨w',q,By,r1,r2,r3,r4,r5,r6⟩:=d9 (ty:=ty) hs hu hi hz Az Cb Dc hy hc hb
 generalize hU:vs.getD (r+1) undef=u at*
 have L8: ∀ b,C8 u=some b -> (p.foot b/\ b≠p.blk)/\ b<w.heap.size:=fun b hb=>hs.blk hb
 have keep: ∀ b,b<w.heap.size -> C8 u≠some b -> w'.heap[b]? =w.heap[b]? :=fun b hb hn=>r4.block b hb hn
 have M7:C8 u≠some p.blk:=fun e=>(L8 _ e).1.2 rfl
 obtain ⟨cs,tt,k1,k2,k3,k4⟩:=h.row;have Zn:p.blk<w.heap.size:=(zCl.1 k1).1;have Zl:q.blk≠p.blk:=fun e=>r5.elim (fun e'=>M7 (by rw [←e];exact e')) (fun e'=>by omega)
 have hv: ∀ j,(vs.setIfInBounds 0 (.slice (some ⟨q.blk,q.off,none⟩) (ls.getD r default++ys).length By)).getD (j+1) undef=vs.getD (j+1) undef:=fun j=>by
  simp [zDA,zDa]
 have Hm:(vs.setIfInBounds 0 (.slice (some ⟨q.blk,q.off,none⟩) (ls.getD r default++ys).length By)).getD 0 undef= .slice (some ⟨q.blk,q.off,none⟩) (ls.getD r default++ys).length By:=by
  have:0<vs.size:=by rw [h.size];omega
  simp [zDA,zDa,this]
 have ne: ∀ j b,j<ls.length -> j≠r -> C8 (vs.getD (j+1) undef)=some b -> C8 u≠some b:=fun j b hj AY hb C4=>AY (h.apart j r b hj hr (fun L e=>by cases e) (fun L e=>by cases e) hb (by rw [hU];exact C4))
 refine ⟨w',_,⟨p.blk,p.off,p.room,.tuple (vs.setIfInBounds 0 (.slice (some ⟨q.blk,q.off,none⟩) (ls.getD r default++ys).length By)),fun b=>(p.foot b/\ C8 u≠some b)∨b=q.blk⟩,r1,r4.mono fun b _ hb=>(L8 b hb).1.1,fun b hb=>?_,?_,rfl,rfl,rfl⟩
 ·rcases hb with ⟨g1,g2⟩ | g1
  ·obtain ⟨c,t1,t2,hc⟩:=hl b g1;exact ⟨.inl g1,c,t1,t2,(keep b (zCl.1 hc).1 g2).trans hc⟩
  ·obtain ⟨_,cs,tt,g,_⟩:=r6;subst g1;exact ⟨r5.imp (fun e=>(L8 _ e).1.1) id,.cells g⟩
 ·refine ⟨rfl,by simpa using h.size,⟨cs,tt,(keep _ Zn M7).trans k1,k2,k3,fun j hj=>?_⟩,.inl ⟨h.blk,M7⟩,fun j hj hh=>?_,fun i j b hi hj _ _ h1 h2=>?_,fun k L e=>?_⟩
  ·rw [zEd (by omega)];exact k4 j hj
  ·have AY:j≠r:=fun e=>hh _ (by rw [e])
   rw [hv];exact (h.has j hj fun L e=>by cases e).out (fun b hf hb hl=>keep b hl (ne j b hj AY hb)) fun b hf hb=>⟨.inl ⟨hf.1,ne j b hj AY hb⟩,hf.2⟩
  ·rw [hv] at h1 h2;exact h.apart i j b hi hj (fun L e=>by cases e) (fun L e=>by cases e) h1 h2
  ·cases e;rw [Hm];refine ⟨.inr ⟨q,By,rfl,r2,r3,by unfold LB;unfold BE at hb;simp only [zDC];omega,⟨.inr rfl,Zl⟩,r6⟩,fun j b hj hb C4=>?_⟩;cases hb;rw [hv] at C4;rcases r5 with r5 | r5
   ·exact h.apart j r q.blk hj hr (fun L e=>by cases e) (fun L e=>by cases e) C4 (by rw [hU];exact r5)
   ·exact absurd ((h.has j hj fun L e=>by cases e).blk C4).2 (Nat.not_lt.2 r5)
theorem qR (h:JZ w p ls Bu vs) {r:Nat} {L:List Int} (JQ:Bu=some (r,L)) (hr:r<ls.length) {t:TypeId} {ti:TypeInfo} (KC:P.info? t=some ti) (Az:ti.size=1):
 ∃ w',(Instr.storeAt t (.pointer (some ⟨p.blk,p.off+r,none⟩)) (vs.getD 0 undef)).run P w= .ok () w'/\ AO (fun b=>b=p.blk) w w'/\ JZ w' { p with val:=.tuple (vs.setIfInBounds (r+1) (vs.getD 0 undef)) } (ls.set r L) none (vs.setIfInBounds (r+1) (vs.getD 0 undef))/\ DW w' p.blk:=by
 obtain ⟨hs,hd⟩:=h.inHand r L JQ;obtain ⟨cs,tt,k1,k2,k3,k4⟩:=h.row
 generalize hU:vs.getD 0 undef=u at*
 have hc:u.cells= #[u]:=by rcases hs with ⟨_,rfl⟩ | ⟨q,cap,rfl,_⟩ <;> rfl
 have KD:r+1<vs.size:=by rw [h.size];omega
 have BQ:w.cell? ⟨p.blk,p.off+r,none⟩=some vs[r+1]:=by
  have:=k4 r hr;rw [zDQ KD] at this;unfold World.cell?;simp [k1,this]
 have Gc: ∀ jj,w.frozen? ⟨p.blk,jj,none⟩=false:=fun jj=>by unfold World.frozen?;simp [k1]
 have hv: ∀ j,j≠r -> (vs.setIfInBounds (r+1) u).getD (j+1) undef=vs.getD (j+1) undef:=fun j hj=>by
  rw [zDA,zDA,zEd (by omega)]
 have GL:(vs.setIfInBounds (r+1) u).getD (r+1) undef=u:=by
  simp [zDA,zDa,KD]
 obtain ⟨EM,e1,e2,e3⟩:=O5 p.blk tt (0,0) [u] (p.off+r) w cs k1 (by simp;omega);have aX:AO (fun b=>b=p.blk) w (w.setCells p.blk (p.off+r) [u]):=Nt _ _ _ _
 generalize hW:w.setCells p.blk (p.off+r) [u]=W at aX e1
 have stay: ∀ b,b≠p.blk -> b<w.heap.size -> W.heap[b]? =w.heap[b]? :=fun b hb hl=>aX.block b hl hb
 refine ⟨W,?_,aX,?_,.cells e1⟩
 ·rw [←hW]
  have:=Xx (w:=w) (b:=p.blk) (o:=p.off+r) (v:=u) KC (by rw [hc,Az];rfl) (fun jj LX=>by
   have:jj=0:=by rw [hc] at LX;simpa using LX
   subst this;rw [zEZ,BQ];rfl) Gc (fun x hx=>by
   have:x=u:=by rw [hc] at hx;simpa using hx
   subst this;rcases hs with ⟨_,rfl⟩ | ⟨q,cap,rfl,_⟩ <;> rfl)
  rw [hc] at this;exact this
 ·have lg: ∀ j,j≠r -> (ls.set r L).getD j default=ls.getD j default:=fun j hj=>by
   rw [u8,u8,zDi (by omega)]
  refine ⟨rfl,by simpa using h.size,⟨EM,tt,e1,by simpa [e2] using k2,by rw [e2];exact k3,fun j hj=>?_⟩,h.blk,fun j hj _=>?_,fun i j b hi hj _ _ h1 h2=>?_,fun k L e=>by cases e⟩
  ·rw [zDE] at hj
   show EM[p.off+j]? =_
   rw [e3]
   by_cases e:j=r
   ·subst e;rw [zB3 (by simp),Array.getElem?_setIfInBounds_self_of_lt KD];simp
   ·rw [zCt (by simp;omega),zEd (by omega)];exact k4 j hj
  ·rw [zDE] at hj
   by_cases e:j=r
   ·subst e;rw [GL,show (ls.set j L).getD j default=L by simp [u8,hj]];exact hs.out (fun b hf _ hl=>stay b hf.2 hl) fun _ h _=>h
   ·rw [hv j e,lg j e];exact (h.has j hj fun L' e'=>by rw [JQ] at e';cases e';exact e rfl).out (fun b hf _ hl=>stay b hf.2 hl) fun _ h _=>h
  ·rw [zDE] at hi hj
   by_cases ei:i=r
   ·subst ei;rw [GL] at h1
    by_cases ej:j=i
    ·exact ej.symm
    ·rw [hv j ej] at h2;exact (hd j b hj h1 h2).symm
   ·rw [hv i ei] at h1
    by_cases ej:j=r
    ·subst ej;rw [GL] at h2;exact hd i b hi h2 h1
    ·rw [hv j ej] at h2;exact h.apart i j b hi hj (fun L' e'=>by rw [JQ] at e';cases e';exact ei rfl) (fun L' e'=>by rw [JQ] at e';cases e';exact ej rfl) h1 h2
theorem eS (R:Ac P Γ N S ρ a w) {o:Oper} {S':St} {fz JX:List (Nat×Fz)} {vc:List Prop} (h:Xt P S fz o=some (S',vc,JX)) (hv:Bm vc):
 BM P (execOp a.eval o) w (fun v w'=>(∃ ρ',Ac P Γ N S' ρ' (a.put o.dst v) w'/\ C5 S.h ρ w S'.h ρ' w')/\ ((∀ t x y,o.op≠.store t x y)∨∃ k i p t x y,o.op= .store t x y/\ Aa S.fr x= .mp k 1 i 0/\ ρ[k]? =some p/\ AO p.foot w w')):=by
 unfold Xt at h;split at h
 ·rename_i t x y ho;split at h
  case h_2=>cases h
  rename_i d rest;split at h
  case isFalse=>cases h
  split at h
  case h_2=>cases h
  rename_i r hT;obtain ⟨e,i⟩:=r;split at h
  case h_2=>cases h
  rename_i k1 m k2 m' hx hy;cases h;obtain ⟨⟨rfl,GN,Hq⟩,_⟩:=hv;obtain ⟨hu,hi,hz,hs,Dc⟩:=qT hT;have rx:=Bo R x;have ry:=Bo R y;rw [hx] at rx;rw [hy] at ry;have DR:(madeCells (Value.slice none 0 0).cells (m'.toNat*i.size)).size=m'.toNat:=by rw [size_madeCells,hs,zDf]
  have C3: ∀ j,j<m'.toNat -> (madeCells (Value.slice none 0 0).cells (m'.toNat*i.size))[j]? =some (Value.slice none 0 0):=fun j hj=>by
   simp [madeCells,hs,hj,Value.cells,Nat.mod_one]
  refine BM.value (s:=Instr.makeSlice t (a.eval x) (a.eval y)) (by unfold execOp;rw [ho]) (v:=.slice (some ⟨w.heap.size,0,none⟩) m'.toNat m'.toNat) (w':=w.alloc (.cells (madeCells (Value.slice none 0 0).cells (m'.toNat*i.size)) e)) ?_ ?_
  ·rw [show a.eval x=_ from rx,show a.eval y=_ from ry];refine run_make w t e i _ hu hi hz k1 k2 m' m' GN (zDZ _) ?_ (by omega);have:(i.bytes:Int)*m'<=128*1000000000000:=Int.mul_le_mul (by omega) Hq GN (by omega);omega
  ·generalize hC:madeCells (Value.slice none 0 0).cells (m'.toNat*i.size)=cs at DR C3 ⊢
   have hg: ∀ j,j<m'.toNat -> (#[undef]++Array.replicate m'.toNat (Value.slice none 0 0)).getD (j+1) undef= .slice none 0 0:=fun j hj=>by
    simp [zDA,Array.getElem?_append,hj]
   refine ⟨NO R o.dst (SH (ob:=.cells cs e) (o:=.mo (.rws (List.replicate m'.toNat []) none)) (d:=.msl S.h.length 1 0 m'.toNat) (pl:=⟨w.heap.size,0,cs.size,.tuple (#[undef]++Array.replicate m'.toNat (Value.slice none 0 0)),fun b=>b=w.heap.size⟩) R.hr rfl rfl (fun M ρ'=>?_) (fun M ρ' hp=>⟨_,m'.toNat,hp,by simp,zC6 _,by unfold LB;omega,by simp [DR]⟩) true) fun _ _ h=>h,.inl fun t x y e=>by rw [ho] at e;cases e⟩;refine ⟨#[undef]++Array.replicate m'.toNat (Value.slice none 0 0),rfl,by simp;omega,⟨cs,e,zES w _,by simp [DR],zC6 _,fun j hj=>?_⟩,rfl,fun j hj _=>.inl ⟨?_,?_⟩,fun i j b hi hj _ _ h1 h2=>?_,fun k L e=>by cases e⟩
   ·rw [zC0] at hj
    show cs[0+j]? =_
    rw [zC4,C3 j hj];simp [Array.getElem?_append,hj]
   ·rw [zC0] at hj;simp [u8,hj]
   ·rw [zC0] at hj;exact hg j hj
   ·rw [zC0] at hi;rw [hg i hi] at h1;cases h1
 ·rename_i c ho;split at h
  case h_2=>cases h
  rename_i hc;split at h
  case h_2=>cases h
  rename_i x y ha;split at h
  case h_2=>cases h
  rename_i t t' ht;split at h
  case isFalse=>cases h
  rename_i e;subst e;split at h
  case h_2=>cases h
  rename_i e i z hk;obtain ⟨hu,hi,hz,h0,Cb,EG,_⟩:=SX hk;have Co:i.size=1:=EG.symm;split at h
  case isTrue=>cases h
  rename_i Dc;have rx:=Bo R x;have ry:=Bo R y;split at h
  case h_2=>cases h
  rename_i j r ys vy hX hY;split at h
  case h_2=>cases h
  rename_i ls hO;cases h;obtain ⟨v1,v2,v3,v4,_⟩:=hv;rw [hX] at rx;obtain ⟨p,vs,hp,hA,Cc⟩:=eQ R hO rx;have ex:a.eval x=vs.getD (r+1) undef:=by simp [zDA,Cc]
  obtain ⟨w',u',p',g1,g2,g3,g4,g5,g6,g7⟩:=qS (ty:=o.type) hA v3 (fun b hb=>(R.hr.cel j _ p b hO hp hb).2.2) hu hi hz Co Cb (by omega) (by rw [Co];exact Ra R hu ry hY v1) v2 v4;refine BM.value (SR ho hc ha ht) (by rw [ex];exact g1) ?_
  exact ⟨eP R hO hp g2 g3 g4 g5 g6 g7 o.dst fun M ρ' hq=>⟨p',_,hq,g4.val,by
   have:0<vs.size:=by rw [hA.size];omega
   simp [zDa,this]⟩,.inl fun t x y e=>by rw [ho] at e;cases e⟩
 ·rename_i t x y ho;split at h
  case h_2=>cases h
  rename_i aK;split at h
  case h_2=>cases h
  rename_i j r j' hX hY;split at h
  case h_2=>cases h
  rename_i ls r' L hO;split at h
  case isFalse=>cases h
  rename_i hc;cases h;obtain ⟨rfl,Az⟩:=hc;obtain ⟨rfl,v2,_⟩:=hv;have rx:=Bo R x;have ry:=Bo R y;rw [hX] at rx;rw [hY] at ry;obtain ⟨p,vs,hp,hA,Cc⟩:=eQ R hO ry;obtain ⟨p2,M8,ex⟩:=rx;have:p2=p:=zCq (M8.symm.trans hp);subst this;cases KC:P.info? t with
  | none=>rw [KC] at Az;cases Az
  | some ti=>
  rw [KC] at Az;have aw:a.eval x= .pointer (some ⟨p2.blk,p2.off+r',none⟩):=by rw [ex];simp
  have ey:a.eval y=vs.getD 0 undef:=by simp [zDA,Cc]
  obtain ⟨W,g1,g2,g3,g4⟩:=qR hA rfl v2 KC (by simpa using Az);refine BM.skip (s:=Instr.storeAt t (a.eval x) (a.eval y)) (by unfold execOp;rw [ho]) (w':=W) (by rw [aw,ey];exact g1) ?_
  have:=eP (a:=a) (p':={ p2 with val:=.tuple (vs.setIfInBounds (r'+1) (vs.getD 0 undef)) }) R hO hp (g2.mono fun b _ hb=>by rw [show b=p2.blk from hb];exact hA.blk) (fun b hb=>⟨.inl hb,by
   by_cases e:b=p2.blk
   ·rw [e];exact g4
   ·obtain ⟨c,t1,t2,hc⟩:=(R.hr.cel _ _ p2 b hO hp hb).2.2;exact ⟨c,t1,t2,(g2.block b (zCl.1 hc).1 e).trans hc⟩⟩) g3 rfl rfl rfl none (d:=.any) (v:=undef) fun _ _ _=>trivial
  rw [aK];exact ⟨this,.inr ⟨j',r',p2,t,x,y,ho,hX,hp,g2.mono fun b _ hb=>by rw [show b=p2.blk from hb];exact hA.blk⟩⟩
 ·cases h
end
end Go.Proofs.YtgkhhfnhacibcaaGreatDoor
namespace Go.Proofs.YtgkhhfnhacibcaaGreatDoor
abbrev zEC:=@Bool.false_or
abbrev zET:=@Bool.false_ne_true
end Go.Proofs.YtgkhhfnhacibcaaGreatDoor
namespace Go.Proofs.YtgkhhfnhacibcaaGreatDoor
open Go.RowKit
def ES (P:Program) (Γ:A1) (f:Nat) (ds:List DV) (h:DH) (d:DV) (h':DH) (ext:Bool):Prop:=
 (∃ fn,P.funcs[f]? =some fn/\ fn.name≠ "runtime.NumGoroutine" /\ fn.body.isSome=true)/\
 ∀ (N:Nat -> Prop) (ρ:List AJ) (w:World) (args:Array Value),BP P Γ N h ρ w -> CA (MS N h ρ) w ρ ds args ->
  Calls P f args w fun e w'=>∃ v,e= .returned v/\ DJ P Γ N h ρ w ext d h' v w'
def RT (h h':DH):Bool:=(List.range h.length).all fun k=>!(h.getD k none).isSome||(h'.getD k none).isSome
def Np (P:Program) (Γ:A1) (f:Nat) (ds:List DV) (h:DH) (d:DV) (h':DH) (k:Nat):Prop:=
 (∃ fn,P.funcs[f]? =some fn/\ fn.name≠ "runtime.NumGoroutine" /\ fn.body.isSome=true)/\
 ∀ (N:Nat -> Prop) (ρ:List AJ) (w:World) (args:Array Value),BP P Γ N h ρ w -> CA (MS N h ρ) w ρ ds args ->
  Calls P f args w fun e w'=>∃ v,e= .returned v/\ DJ P Γ N h ρ w false d h' v w'/\ AO (fun b=>∃ i o p,k<=i/\ h[i]? =some (some o)/\ ρ[i]? =some p/\ p.foot b) w w'
structure Bz where
 calls:List (DV×DH×Bool)
 co:List (Nat×DV)
 fz:List (Nat×Fz):=[]
 tg:List (List (Nat×Nat)×St):=[]
def Kn (ops:Array Oper) (S:St) (o:Oper):Option Bool:=match o.guard with
 | none=>some true
 | some (j,cd)=>match (ops[j]?).bind (·.dst) with
  | some t=>match S.fr.getD t .any with
   | .bool b=>some (b==cd)
   | .tup _ _=>some false
   | _=>none
  | none=>none
def Sq (co:List (Nat×DV)) (dst:Option Nat) (d:DV):DV×List Prop×List (Nat×DV):=match co with
 | []=>(d,[],[])
 | (t,d')::rest=>match dst with
  | some t'=>if t'=t then (d',[AQ d d'],rest) else (d,[],co)
  | none=>(d,[],co)
def Ko (S:St):Op -> Bool
 | .move _=>true
 | .assign _=>true
 | .pick .. =>true
 | .binOp .shl .. =>false
 | .binOp .shr .. =>false
 | .binOp .quo .. =>false
 | .binOp .rem .. =>false
 | .binOp _ _ _ y _=>match Aa S.fr y with
  | .nils=>false
  | _=>true
 | .unOp .. =>true
 | .convert .. =>true
 | .nilCheck _=>true
 | .fieldAddr .. =>true
 | .extract .. =>true
 | .makeFunc .. =>true
 | .build .. =>true
 | .field .. =>true
 | .call _=>true
 | .load _ x=>match Aa S.fr x with
  | .mp .. =>false
  | _=>true
 | _=>false
def vL:Op -> Bool
 | .box .. =>true
 | .alloc _=>true
 | .buildSlice .. =>true
 | .makeSlice .. =>true
 | .store .. =>true
 | .makeMap .. =>true
 | .mapUpdate .. =>true
 | .insert .. =>true
 | .lookup .. =>true
 | .range .. =>true
 | .entry _=>true
 | .call c=>match c.callee with
  | .builtin .append=>true
  | .value _=>true
  | _=>false
 | _=>false
def Qo (P:Program) (ops:Array Oper) (S:St) (co:List (Nat×DV)) (o:Oper):Option (St×List Prop×List (Nat×DV)):=match Kn ops S o with
 | none=>none
 | some false=>some (⟨D9 S.fr o.dst P4,S.h⟩,[],co)
 | some true=>match Qz P S o.op with
  | none=>none
  | some (d,vc)=>match Sq co o.dst d with
   | (d',vs,DG)=>some (⟨D9 S.fr o.dst d',S.h⟩,(if Ko S o.op then vs else vc::vs),DG)
def Qq (P:Program) (ops:Array Oper):List Oper -> St -> List (Nat×DV) -> Option (St×List Prop×List (Nat×DV))
 | [],S,co=>some (S,[],co)
 | o::rest,S,co=>match Qo P ops S co o with
  | none=>none
  | some (S',vs,DG)=>match Qq P ops rest S' DG with
   | none=>none
   | some (Cs,BY,lM)=>some (Cs,vs++BY,lM)
def Pj (P:Program) (Γ:A1) (S:St) (calls:List (DV×DH×Bool)):Op -> Option (DV×DH×List Prop×Bool×List (DV×DH×Bool))
 | .box _ x=>match In (Aa S.fr x) with
  | some l=>some (.ref S.h.length 0,S.h++[some (.cells l)],[],true,calls)
  | none=>none
 | .alloc t=>match P.info? t with
  | some i=>match i.zero with
   | some z=>if XA z then some (.mp S.h.length 1 0 0,S.h++[some (.bools (List.replicate z.cells.size false))],[],true,calls)
    else some (.ref S.h.length 0,S.h++[some (.cells (z.cells.toList.map FZ))],[],true,calls)
   | none=>none
  | none=>none
 | .buildSlice t len parts=>match KU P t with
  | some (k,_,_,_)=>if WW parts.toList len&&decide (len<=65536/\ k.cells<=64) then match Pa k (parts.toList.map fun x=>Aa S.fr x.2) with
   | some ob=>some (.msl S.h.length k.cells 0 len,S.h++[some ob],[],true,calls)
   | none=>none
   else none
  | none=>none
 | .makeSlice t x y=>match Uy P t with
  | some (n,_,_)=>match Aa S.fr x,Aa S.fr y with
   | .int _ m,.int _ m'=>some (.msl S.h.length 1 0 m.toNat,S.h++[some (.mo (.sets n (List.replicate m.toNat none) none))],[m'=m/\ 0<=m/\ m<=1000000000000],true,calls)
   | _,_=>none
  | none=>match KU P t with
   | some (k,_,i,z)=>if decide (i.bytes<=128) then match Aa S.fr x,Aa S.fr y with
    | .int _ n,.int _ n'=>some (.msl S.h.length k.cells 0 n.toNat,S.h++[some (iC k n.toNat z)],[n'=n/\ 0<=n/\ n<=1000000000000],true,calls)
    | _,_=>none
    else none
   | none=>none
 | .store t x y=>match MA P S t (Aa S.fr x) (Aa S.fr y) with
  | some (h',vc)=>some (.any,h',[vc],false,calls)
  | none=>none
 | .call c=>match c.callee with
  | .builtin .append=>match c.args.toList with
   | [x,y]=>match c.argTypes.toList with
    | [t,t']=>if t=t' then match br P S t (Aa S.fr x) (Aa S.fr y) with
     | some (d,h',vc)=>some (d,h',[vc],false,calls)
     | none=>none
     else none
    | _=>none
   | _=>none
  | .value f=>match Aa S.fr f,calls with
   | .fn g m cap,(d,h',ext)::rest=>some (d,h',[ES P Γ g (c.args.toList.map (Aa S.fr)++(List.range m).map cap) S.h d h' ext],ext,rest)
   | _,_=>none
  | _=>none
 | op=>match Yp P S op with
  | some (d,h',vs,ext)=>some (d,h',vs,ext,calls)
  | none=>none
def Ng (P:Program) (Γ:A1) (ops:Array Oper) (S:St) (Aq:Bz) (o:Oper):Option (St×List Prop×Bool×Bz):=match Kn ops S o with
 | none=>none
 | some false=>some (⟨D9 S.fr o.dst P4,S.h⟩,[],true,Aq)
 | some true=>match Xt P S Aq.fz o with
  | some (S',vs,JX)=>some (S',vs,false,⟨Aq.calls,Aq.co,JX,Aq.tg⟩)
  | none=>match XZ P S o with
  | some (S',vs)=>some (S',vs,false,Aq)
  | none=>match Pj P Γ S Aq.calls o.op with
   | none=>none
   | some (d,h',vs,ext,calls)=>match Sq Aq.co o.dst d with
    | (d',BY,DG)=>match SJ Aq.fz o.dst ⟨D9 S.fr o.dst d',h'⟩ with
     | none=>none
     | some (S',Ns,JX)=>some (S',vs++(BY++Ns),ext,⟨calls,DG,JX,Aq.tg⟩)
def E2 (P:Program) (Γ:A1) (ops:Array Oper):List Oper -> St -> Bz -> Option (St×List Prop×Bz)
 | [],S,Aq=>some (S,[],Aq)
 | o::rest,S,Aq=>match vL o.op with
  | true=>match Ng P Γ ops S Aq o with
   | none=>none
   | some (S',vs,_,CO)=>match E2 P Γ ops rest S' CO with
    | none=>none
    | some (Cs,BY,Q9)=>some (Cs,vs++BY,Q9)
  | false=>match Qo P ops S Aq.co o with
   | none=>none
   | some (S',vs,DG)=>match E2 P Γ ops rest S' ⟨Aq.calls,DG,Aq.fz,Aq.tg⟩ with
    | none=>none
    | some (Cs,BY,Q9)=>some (Cs,vs++BY,Q9)
def bR (P:Program) (Γ:A1) (hb:DH) (ops:Array Oper) (S:St) (Aq:Bz) (o:Oper):Option (St×List Prop×Bz):=match o.op with
 | .call c=>match c.callee with
  | .value f=>match Aa S.fr f,Aq.calls with
   | .fn g m cap,(d,h',false)::rest=>match Kn ops S o,RT hb S.h with
    | some true,true=>match Sq Aq.co o.dst d with
     | (d',BY,DG)=>match SJ Aq.fz o.dst ⟨D9 S.fr o.dst d',h'⟩ with
      | some (S',Ns,JX)=>some (S',Np P Γ g (c.args.toList.map (Aa S.fr)++(List.range m).map cap) S.h d h' hb.length::(BY++Ns),⟨rest,DG,JX,Aq.tg⟩)
      | none=>none
    | _,_=>none
   | _,_=>none
  | _=>none
 | _=>none
def bh (Ct:List Nat) (hb h:DH):DH:=match Ct with
 | []=>hb
 | _=>h
def hseq (P:Program) (Γ:A1) (ops:Array Oper):DH -> List (List Nat×Nat) -> List Nat -> List Nat -> St -> Bz -> Option (St×List Prop×Bz)
 | _,[],Bc,tail,S,Aq=>match Qq P ops (FY ops Bc) S Aq.co with
  | none=>none
  | some (S',vs,DG)=>match E2 P Γ ops (FY ops tail) S' ⟨Aq.calls,DG,Aq.fz,Aq.tg⟩ with
   | none=>none
   | some (Cs,BY,Q9)=>some (Cs,vs++BY,Q9)
 | hb,(Ct,i)::Ez,Bc,tail,S,Aq=>match Qq P ops (FY ops Ct) S Aq.co with
  | none=>none
  | some (S',vs,DG)=>match ops[i]? with
   | none=>none
   | some o=>match bR P Γ (bh Ct hb S.h) ops S' ⟨Aq.calls,DG,Aq.fz,Aq.tg⟩ o with
    | some (Cs,BY,CO)=>match hseq P Γ ops (bh Ct hb S.h) Ez Bc tail Cs CO with
     | none=>none
     | some (S3,L7,J3)=>some (S3,vs++(BY++L7),J3)
    | none=>match Ng P Γ ops S' ⟨Aq.calls,DG,Aq.fz,Aq.tg⟩ o with
     | none=>none
     | some (Cs,BY,ext,CO)=>match ext with
      | false=>none
      | true=>match hseq P Γ ops (bh Ct hb S.h) Ez Bc tail Cs CO with
       | none=>none
       | some (S3,L7,J3)=>some (S3,vs++(BY++L7),J3)
section
variable {P:Program} {Γ:A1} {N:Nat -> Prop} {S:St} {ρ:List AJ} {a:Act} {w:World} {F:Fence}
structure D4 (F:Fence) (P:Program):Prop where
 fn: ∀ f,F.fn f
 dep:F.depth=none
 calls: ∀ {f:FuncId} {args:Array Value} {w:World} {R:Ending -> World -> Prop},Calls P f args w R -> CallsIn F 0 P f args w R
theorem D4.wide:D4 Fence.wide P:=⟨fun _=>trivial,rfl,fun h=>callsIn_wide.2 h⟩
theorem D4.round (l:Nat):D4 (Fence.wide.inRound l) P:=⟨fun _=>trivial,rfl,fun h=>CallsIn.inRound _ (callsIn_wide.2 h)⟩
theorem Jf (R:Ac P Γ N S ρ a w) {ops:Array Oper} {o:Oper} {r:Bool} (h:Kn ops S o=some r):Region.wanted o (yielded ops a.tmps)=r:=by
 unfold Kn at h;unfold Region.wanted;split at h
 ·rename_i hg;rw [hg];cases h;rfl
 ·rename_i j cd hg;rw [hg];split at h
  ·rename_i t ht;split at h
   ·rename_i b hb;cases h;have hr:=R.fr.at t;rw [hb] at hr;have hv:a.tmps.getD t undef= .bool b:=hr
    have:a.tmps[t]? =some (.bool b):=by
     rw [zDA] at hv;cases hx:a.tmps[t]? with
     | none=>rw [hx] at hv;cases hv
     | some u=>rw [hx] at hv;exact congrArg some hv
    simp [yielded,ht,this]
   ·rename_i m f hb;cases h;have hr:=R.fr.at t;rw [hb] at hr;obtain ⟨cs,hv,_⟩:=hr
    have:yielded ops a.tmps j=none:=by
     unfold yielded;rw [ht]
     show (match a.tmps[t]? with | some (.bool b)=>some b | _=>none)=none
     rw [zDA] at hv;cases hx:a.tmps[t]? with
     | none=>rfl
     | some u=>rw [hx] at hv;have hv:u= .tuple cs:=hv;rw [hv]
    simp [this]
   ·cases h
  ·cases h
theorem Wj {co:List (Nat×DV)} {dst:Option Nat} {d d':DV} {vs:List Prop} {DG:List (Nat×DV)} (h:Sq co dst d=(d',vs,DG)) (hv:Bm vs) {M:Nat -> Prop} {v:Value} (hr:AK M w d ρ v):AK M w d' ρ v:=by
 unfold Sq at h;split at h
 ·cases h;exact hr
 ·split at h
  ·split at h
   ·cases h;exact hv.1 M w ρ v hr
   ·cases h;exact hr
  ·cases h;exact hr
theorem fl {op:Op} {d:DV} {vc:Prop} (h:pop P S op=some (d,vc)) (ht:Ko S op=true):vc:=by
 unfold pop at h;split at h
 ·cases h;trivial
 ·cases h;trivial
 ·repeat' (split at h)
  all_goals first | (cases h;trivial) | (cases h;done)
 ·rename_i t x;simp only [Ko] at ht;unfold Mr at h
  repeat' (split at h)
  all_goals first | (cases h;trivial) | (cases h;done) | (simp_all;done)
 ·rename_i op t x y t';unfold Wr at h;split at h
  ·split at h
   all_goals first | (cases h;trivial) | (cases h;done)
  ·split at h
   all_goals first | (cases h;trivial) | (cases h;done)
  ·rename_i e;simp [Ko,e] at ht
  ·rename_i e;simp [Ko,e] at ht
  ·rename_i e;simp [Ko,e] at ht
  ·cases ht
  ·cases ht
  ·cases ht
  ·cases ht
  ·split at h
   ·unfold Wq at h;split at h
    all_goals first | (cases h;trivial) | (cases h;done)
   ·cases h
  ·cases h
 ·repeat' (split at h)
  all_goals first | (cases h;trivial) | (cases h;done)
 ·repeat' (split at h)
  all_goals first | (cases h;trivial) | (cases h;done)
 ·repeat' (split at h)
  all_goals first | (cases h;trivial) | (cases h;done)
 ·repeat' (split at h)
  all_goals first | (cases h;trivial) | (cases h;done)
 ·cases ht
 ·repeat' (split at h)
  all_goals first | (cases h;trivial) | (cases h;done)
 ·split at h
  ·cases h;trivial
  ·cases h
 ·split at h
  ·unfold Wo at h;split at h
   ·split at h
    ·split at h
     ·unfold U9 at h;split at h
      all_goals first | (cases h;trivial) | (cases h;done)
     ·cases h
    ·cases h
   ·split at h
    ·unfold Yk at h;split at h
     all_goals first | (cases h;trivial) | (cases h;done)
    ·cases h
   ·split at h
    ·unfold Yj at h;split at h
     all_goals first | (cases h;trivial) | (cases h;done)
    ·cases h
   ·cases h
  ·cases h
 ·cases h
theorem zAW {op:BinOp} {t:TypeId} {x y d:DV} {vc:Prop} (h:SU P op t x y=some (d,vc)):vc:=by
 unfold SU at h;split at h
 ·split at h
  all_goals first | (cases h;trivial) | (cases h;done)
 ·split at h
  all_goals first | (cases h;trivial) | (cases h;done)
 ·cases h
theorem nk {op:Op} {d:DV} {vc:Prop} (h:Qz P S op=some (d,vc)) (ht:Ko S op=true):vc:=by
 unfold Qz at h;split at h
 ·unfold U7 at h
  repeat' (split at h)
  all_goals first | (cases h;trivial) | (cases h;done)
 ·cases ht
 ·unfold WC at h
  repeat' (split at h)
  all_goals first | (cases h;trivial) | (cases h;done)
 ·cases ht
 ·split at h
  ·rename_i r hr;cases h;exact zAW hr
  ·exact fl h ht
 ·exact fl h ht
theorem UU (R:Ac P Γ N S ρ a w) {ops:Array Oper} {co:List (Nat×DV)} {o:Oper} {S':St} {vs:List Prop} {DG:List (Nat×DV)} (h:Qo P ops S co o=some (S',vs,DG)) (hv:Bm vs):
 S'.h=S.h/\ ((Region.wanted o (yielded ops a.tmps)=true/\ ∃ v,(∀ W,Keep N w W -> (execOp a.eval o).run P W= .ok (.value v) W)/\ Ac P Γ N S' ρ (a.put o.dst v) w)∨(Region.wanted o (yielded ops a.tmps)=false/\ Ac P Γ N S' ρ (a.put o.dst undef) w)):=by
 unfold Qo at h;split at h
 ·cases h
 ·rename_i hw;cases h;exact ⟨rfl,.inr ⟨Jf R hw,IF R _ TZ⟩⟩
 ·rename_i hw;split at h
  ·cases h
  ·rename_i d vc hp;split at h;rename_i d' BY lM NI;cases h
   have ix:vc/\ Bm BY:=by
    by_cases ht:Ko S o.op=true
    ·rw [zB3 ht] at hv;exact ⟨nk hp ht,hv⟩
    ·rw [zCt ht] at hv;exact hv
   obtain ⟨v,g1,g2⟩:=su R o hp ix.1;exact ⟨rfl,.inl ⟨Jf R hw,v,g1,IF R _ (Wj NI ix.2 g2)⟩⟩
theorem Qp {ops:Array Oper} {Q:Act -> Prop}: ∀ (l:List Oper) {S:St} {a:Act} {co:List (Nat×DV)} {S':St} {vs:List Prop} {DG:List (Nat×DV)},Ac P Γ N S ρ a w -> Qq P ops l S co=some (S',vs,DG) -> Bm vs ->
 (∀ a',S'.h=S.h -> Ac P Γ N S' ρ a' w -> a'.defers=a.defers -> Q a') -> wpQuiet P ops (fun w'=>∃ x:TP w,w'=x.W) Q l a
 | [],S,a,co,S',vs,DG,R,h,_,hQ=>by
  cases h;exact hQ a rfl R rfl
 | o::rest,S,a,co,S',vs,DG,R,h,hv,hQ=>by
  simp only [Qq] at h;split at h
  ·cases h
  ·rename_i S1 Cw Sr h1;split at h
   ·cases h
   ·rename_i S2 FS co2 h2;cases h;obtain ⟨BZ,CG⟩:=Cz.1 hv;obtain ⟨e1,hs⟩:=UU R h1 BZ;unfold wpQuiet;have DD: ∀ v,(a.put o.dst v).defers=a.defers:=fun v=>by cases ho:o.dst <;> simp [Act.put]
    rcases hs with ⟨hw,v,g1,g2⟩ | ⟨hw,g2⟩
    ·rw [zB3 hw];refine ⟨v,?_,Qp rest g2 h2 CG fun a' q1 q2 q3=>hQ a' (q1.trans e1) q2 (q3.trans (DD v))⟩;rintro W ⟨x,rfl⟩;unfold Oper.quietAt;rw [g1 x.W (Keep.ofExt x.le)];exact ⟨rfl,rfl⟩
    ·rw [zCt (by rw [hw];exact zET)];exact Qp rest g2 h2 CG fun a' q1 q2 q3=>hQ a' (q1.trans e1) q2 (q3.trans (DD undef))
theorem CA.append {M:Nat -> Prop} {l l':List DV} {t t':Array Value} (h:CA M w ρ l t) (h':CA M w ρ l' t'):CA M w ρ (l++l') (t++t'):=by
 refine ⟨by simp [h.1,h'.1],fun i hi=>?_⟩;rcases zD3 i l.length with hl | hl
 ·have:=h.2 i hl;have ht:i<t.size:=by rw [←h.1];exact hl
  simp only [u8,zDA] at this ⊢;rw [zC8 hl,zED ht];exact this
 ·have BD:i-l.length<l'.length:=by simp at hi;omega
  have:=h'.2 _ BD;have ht:t.size<=i:=by rw [←h.1];exact hl
  simp only [u8,zDA] at this ⊢;rw [zDJ hl,Array.getElem?_append_right ht,←h.1];exact this
theorem qv {g:Nat} {args:Array Value} {fn:Func} (NF:P.funcs[g]? =some fn) (KH:fn.name≠ "runtime.NumGoroutine") (aQ:fn.body.isSome=true):(callFunc g args).run P w= .ok (.enter g args) w:=by
 have yN:fn.body.isNone=false:=by cases hb:fn.body <;> simp [hb] at aQ ⊢
 have yM:(fn.name== "runtime.NumGoroutine")=false:=by simpa using KH
 unfold callFunc;rw [zC3,show Sem.run P program w= .ok P w from rfl];simp only [Result.andThen,NF,yM,yN,zDU,zER];rfl
theorem lX (R:Ac P Γ N S ρ a w) {c:Call} {f:Operand} {g m:Nat} {cap:Nat -> DV} {G:Value -> World -> Prop} (o:Oper) (ho:o.op= .call c) (hc:c.callee= .value f) (hf:Aa S.fr f= .fn g m cap)
 (NF: ∃ fn,P.funcs[g]? =some fn/\ fn.name≠ "runtime.NumGoroutine" /\ fn.body.isSome=true) (hE: ∀ args,CA (MS N S.h ρ) w ρ (c.args.toList.map (Aa S.fr)++(List.range m).map cap) args -> Calls P g args w fun e w'=>∃ v,e= .returned v/\ G v w'):BM P (execOp a.eval o) w G:=by
 obtain ⟨fn,NF,KH,aQ⟩:=NF;have hr:=Bo R f;rw [hf] at hr;obtain ⟨lb,hv,hs,La⟩:=hr;refine .inr (.inr ⟨g,c.args.map a.eval++lb,w,?_,hE _ (CA.append ⟨by simp,fun i hi=>?_⟩ ⟨by simp [hs],fun i hi=>?_⟩)⟩)
 ·unfold execOp;rw [ho]
  show ((resolve a.eval c o.type)>>=fun d=>invoke d.target d.args).run P w=_
  unfold resolve;rw [hc];simp only [Deferred.ofValue,hv];have he:((pure { target:=.fn (.func g) lb,args:=#[]++Array.map a.eval c.args }:Sem Deferred)>>=fun d=>invoke d.target d.args).run P w=(callFunc g (#[]++Array.map a.eval c.args++lb)).run P w:=rfl;rw [he,qv NF KH aQ];simp
 ·have BD:i<c.args.size:=by simpa using hi
  have:=Bo R c.args[i];simp [BD,this]
 ·have BD:i<m:=by simpa using hi
  obtain ⟨u,g1,g2⟩:=La i BD;simp [BD,g1,g2]
theorem zBn (R:Ac P Γ N S ρ a w) {c:Call} {f:Operand} {g m:Nat} {cap:Nat -> DV} {d:DV} {h':DH} {ext:Bool} (o:Oper) (ho:o.op= .call c) (hc:c.callee= .value f) (hf:Aa S.fr f= .fn g m cap)
 (hE:ES P Γ g (c.args.toList.map (Aa S.fr)++(List.range m).map cap) S.h d h' ext):BM P (execOp a.eval o) w (DJ P Γ N S.h ρ w ext d h'):=
 lX R o ho hc hf hE.1 fun args ha=>hE.2 N ρ w args R.hr ha
theorem cA (R:Ac P Γ N S ρ a w) {calls:List (DV×DH×Bool)} {o:Oper} {d:DV} {h':DH} {vs:List Prop} {ext:Bool} {Ss:List (DV×DH×Bool)} (h:Pj P Γ S calls o.op=some (d,h',vs,ext,Ss)) (hv:Bm vs):
 BM P (execOp a.eval o) w (DJ P Γ N S.h ρ w ext d h'):=by
 unfold Pj at h;split at h
 ·rename_i t x ho;split at h
  ·rename_i l hl;cases h;exact zBs R hl o ho true
  ·cases h
 ·rename_i t ho;split at h
  ·rename_i i hi;split at h
   ·rename_i z hz;split at h
    ·rename_i ZR;cases h;exact zCS R hi hz ZR o ho true
    ·cases h;exact zCR R hi hz o ho true
   ·cases h
  ·cases h
 ·rename_i t len parts ho;split at h
  ·rename_i k e i z hk;split at h
   ·rename_i hc;simp only [zCp,zDH] at hc;split at h
    ·rename_i ob hb;cases h;exact zBq R hk hc.1 hc.2 hb o ho true
    ·cases h
   ·cases h
  ·cases h
 ·rename_i t x y ho;split at h
  ·rename_i n e i hT;split at h
   ·rename_i k1 m k2 m' hx hy;cases h;obtain ⟨⟨rfl,v1,v2⟩,_⟩:=hv;exact uJ R hT hx hy ⟨v1,v2⟩ o ho true
   ·cases h
  split at h
  ·rename_i k e i z hk;split at h
   ·rename_i Dc;split at h
    ·rename_i k1 n k2 n' hx hy;cases h;obtain ⟨⟨rfl,v1,v2⟩,_⟩:=hv;exact uI R hk hx hy ⟨v1,v2⟩ (by simpa using Dc) o ho true
    ·cases h
   ·cases h
  ·cases h
 ·rename_i t x y ho;split at h
  ·rename_i h1 vc hs;cases h;exact dl R hs hv.1 o ho
  ·cases h
 ·rename_i c ho;split at h
  ·rename_i hc;split at h
   ·rename_i x y ha;split at h
    ·rename_i t t' ht;split at h
     ·rename_i e;subst e;split at h
      ·rename_i d1 h1 vc aV;cases h;exact zCJ R aV hv.1 o ho hc ha ht
      ·cases h
     ·cases h
    ·cases h
   ·cases h
  ·rename_i f hc;split at h
   ·rename_i g m cap d1 h1 ext1 rest hf;cases h;exact zBn R o ho hc hf hv.1
   ·cases h
  ·cases h
 ·split at h
  ·rename_i hm;cases h;exact uH R o hm hv
  ·cases h
theorem KV (hF:D4 F P) {o:Oper} (hd: ∀ c,o.op≠.defer c) {G:Value -> World -> Prop} (h:BM P (execOp a.eval o) w G) {K:Act -> World -> Prop} {Q:Exit -> Act -> World -> Prop} (hK: ∀ v w',G v w' -> K (a.put o.dst v) w'):o.wpIn F 0 P a w K Q:=by
 refine ⟨fun f _=>hF.fn f,?_⟩;rw [zEj _ _ _ hd];rcases h with ⟨v,w',h1,h2⟩ | ⟨w',h1,h2⟩ | ⟨f,args,w',h1,h2⟩
 ·rw [h1];exact hK v w' h2
 ·rw [h1];exact hK undef w' h2
 ·rw [h1];refine ⟨fun hx=>(by rw [hF.dep] at hx;cases hx),(hF.calls h2).mono ?_⟩;rintro e CF ⟨v,rfl,hG⟩;exact hK v CF hG
theorem ba (hF:D4 F P) (R:Ac P Γ N S ρ a w) {ops:Array Oper} {Aq:Bz} {o:Oper} (hd: ∀ c,o.op≠.defer c) {S':St} {vs:List Prop} {ext:Bool} {CO:Bz} (h:Ng P Γ ops S Aq o=some (S',vs,ext,CO)) (hv:Bm vs)
 {K:Act -> World -> Prop} {Q:Exit -> Act -> World -> Prop} (hK: ∀ ρ' a' w',Ac P Γ N S' ρ' a' w' -> C5 S.h ρ w S'.h ρ' w' -> a'.defers=a.defers -> (ext=true -> Ar w w') -> K a' w'):
 if Region.wanted o (yielded ops a.tmps) then o.wpIn F 0 P a w K Q else (∀ f,o.about P w a.eval=some f -> F.fn f)/\ K (a.put o.dst undef) w:=by
 have DD: ∀ v,(a.put o.dst v).defers=a.defers:=fun v=>by cases ho:o.dst <;> simp [Act.put]
 unfold Ng at h;split at h
 ·cases h
 ·rename_i hw;cases h;rw [zCt (by rw [Jf R hw];exact zET)];exact ⟨fun f _=>hF.fn f,hK ρ _ _ (IF R _ TZ) (C5.refl _ _ _) (DD _) fun _=>Ar.refl w⟩
 ·rename_i hw;rw [zB3 (Jf R hw)];split at h
  ·rename_i S1 Cw zt hM;cases h;exact KV hF hd (eS R hM hv) fun v w' ⟨⟨ρ',g1,g2⟩,_⟩=>hK ρ' _ _ g1 g2 (DD v) fun e=>by cases e
  split at h
  ·rename_i S1 Cw hM;cases h;exact KV hF hd (dk R hM hv) fun v w' ⟨⟨ρ',g1,g2⟩,_⟩=>hK ρ' _ _ g1 g2 (DD v) fun e=>by cases e
  split at h
  ·cases h
  ·rename_i d h1 Cw ext1 calls aW;split at h;rename_i d' BY DG NI;split at h
   ·cases h
   ·rename_i S2 Ns JX Gc;cases h;obtain ⟨BZ,Ro⟩:=Cz.1 hv;obtain ⟨CG,IX⟩:=Cz.1 Ro;refine KV hF hd (cA R aW BZ) fun v w' G=>?_
    obtain ⟨ρ',g1,g2⟩:=NO R o.dst G (d':=d') fun M ρ' hr=>Wj NI CG hr
    obtain ⟨g3,g4⟩:=V6 _ Gc IX P Γ N ρ' _ _ g1;exact hK ρ' _ _ g3 (g2.trans ⟨g4,fun _ _ h=>h⟩) (DD v) G.ext
theorem Ld (hF:D4 F P) {ops:Array Oper} (A5:EB ops=true) {Q:Exit -> Act -> World -> Prop}: ∀ (l:List Oper) (_: ∀ o∈l,o∈ops) {S:St} {ρ:List AJ} {a:Act} {w:World} {Aq:Bz} {S':St} {vs:List Prop} {CO:Bz},
 Ac P Γ N S ρ a w -> E2 P Γ ops l S Aq=some (S',vs,CO) -> Bm vs ->
 (∀ ρ' a' w',Ac P Γ N S' ρ' a' w' -> C5 S.h ρ w S'.h ρ' w' -> a'.defers=a.defers -> Q .normal a' w') -> wpListIn F 0 P ops Q l a w
 | [],_,S,ρ,a,w,Aq,S',vs,CO,R,h,_,hQ=>by
  cases h;exact hQ ρ a w R (C5.refl _ _ _) rfl
 | o::rest,hl,S,ρ,a,w,Aq,S',vs,CO,R,h,hv,hQ=>by
  have hd: ∀ c,o.op≠.defer c:=by
   obtain ⟨j,hj,e⟩:=Array.getElem_of_mem (hl o (by simp));exact IS A5 (j:=j) (by rw [zDQ hj,e])
  have Dv: ∀ o∈rest,o∈ops:=fun o ho=>hl o (by simp [ho])
  have DD: ∀ v,(a.put o.dst v).defers=a.defers:=fun v=>by cases ho:o.dst <;> simp [Act.put]
  simp only [E2] at h;unfold wpListIn;split at h
  ·split at h
   ·cases h
   ·rename_i S1 Cw ext1 Me h1;split at h
    ·cases h
    ·rename_i S2 FS G3 h2;cases h;obtain ⟨BZ,CG⟩:=Cz.1 hv;exact ba hF R hd h1 BZ fun ρ' a' w' R' st Dy _=>Ld hF A5 rest Dv R' h2 CG fun ρ'' Fj CF Fk Dk HB=>hQ ρ'' Fj CF Fk (st.trans Dk) (HB.trans Dy)
  ·split at h
   ·cases h
   ·rename_i S1 Cw Sr h1;split at h
    ·cases h
    ·rename_i S2 FS G3 h2;cases h;obtain ⟨BZ,CG⟩:=Cz.1 hv;obtain ⟨e1,hs⟩:=UU R h1 BZ
     have go: ∀ v,Ac P Γ N S1 ρ (a.put o.dst v) w -> wpListIn F 0 P ops Q rest (a.put o.dst v) w:=fun v R'=>
      Ld hF A5 rest Dv R' h2 CG fun ρ'' Fj CF Fk Dk HB=>hQ ρ'' Fj CF Fk (by rw [←e1];exact Dk) (HB.trans (DD v))
     rcases hs with ⟨hw,v,g1,g2⟩ | ⟨hw,g2⟩
     ·rw [zB3 hw];refine ⟨fun f _=>hF.fn f,?_⟩;rw [zEj _ _ _ hd,g1 w (Keep.ofExt (Ar.refl w))];exact go v g2
     ·rw [zCt (by rw [hw];exact zET)];exact ⟨fun f _=>hF.fn f,go undef g2⟩
theorem YM {ops:Array Oper}: ∀ (l:List Nat),∀ o∈FY ops l,o∈ops
 | [],o,h=>by simp [FY] at h
 | i::l,o,h=>by
  simp only [FY] at h;split at h
  ·rename_i o' ho;rcases zDF.1 h with rfl | h
   ·exact zEU ho
   ·exact YM l o h
  ·exact YM l o h
theorem lY (hF:D4 F P) (R:Ac P Γ N S ρ a w) {hb:DH} {ops:Array Oper} {Aq:Bz} {o:Oper} {S':St} {vs:List Prop} {CO:Bz} (h:bR P Γ hb ops S Aq o=some (S',vs,CO)) (hv:Bm vs)
 {K:Act -> World -> Prop} {Q:Exit -> Act -> World -> Prop} (hK: ∀ ρ' a' w',Ac P Γ N S' ρ' a' w' -> C5 S.h ρ w S'.h ρ' w' -> a'.defers=a.defers -> AO (fun b=>∃ i o p,hb.length<=i/\ S.h[i]? =some (some o)/\ ρ[i]? =some p/\ p.foot b) w w' -> K a' w'):
 RT hb S.h=true/\ if Region.wanted o (yielded ops a.tmps) then o.wpIn F 0 P a w K Q else (∀ f,o.about P w a.eval=some f -> F.fn f)/\ K (a.put o.dst undef) w:=by
 have DD: ∀ v,(a.put o.dst v).defers=a.defers:=fun v=>by cases ho:o.dst <;> simp [Act.put]
 unfold bR at h;split at h
 case h_2=>cases h
 rename_i c ho;split at h
 case h_2=>cases h
 rename_i f hc;split at h
 case h_2=>cases h
 rename_i g m cap d h' rest hf hcalls;split at h
 case h_2=>cases h
 rename_i hw hk;split at h;rename_i d' BY DG NI;split at h
 case h_2=>cases h
 rename_i S1 Ns JX Gc;cases h;obtain ⟨BZ,Ro⟩:=hv;obtain ⟨CG,IX⟩:=Cz.1 Ro;refine ⟨hk,?_⟩;rw [zB3 (Jf R hw)];refine KV hF (fun c e=>by rw [ho] at e;cases e) (lX R o ho hc hf BZ.1 fun args ha=>BZ.2 N ρ w args R.hr ha) fun v w' G=>?_
 obtain ⟨ρ',g1,g2⟩:=NO R o.dst G.1 (d':=d') fun M ρ' hr=>Wj NI CG hr
 obtain ⟨g3,g4⟩:=V6 _ Gc IX P Γ N ρ' _ _ g1;exact hK ρ' _ _ g3 (g2.trans ⟨g4,fun _ _ h=>h⟩) (DD v) G.2
theorem t6 {hb h:DH} {ρb ρ:List AJ} {b w w':World} (HR:BP P Γ N h ρ w) (hS:C5 hb ρb b h ρ w) (hE:Ar b w) (hk:RT hb h=true) (hu:AO (fun x=>∃ i o p,hb.length<=i/\ h[i]? =some (some o)/\ ρ[i]? =some p/\ p.foot x) w w'):Ar b w':=by
 refine ((AO.ofExt (S:=fun x=>∃ i o p,hb.length<=i/\ h[i]? =some (some o)/\ ρ[i]? =some p/\ p.foot x) hE).comp hu fun _ _ h=>h).toExt ?_;rintro x hx ⟨i,o,p,h1,h2,h3,h4⟩;rcases hS.st.grow x ⟨i,o,p,h2,h3,h4⟩ with ⟨k,o',q,g1,g2,g3⟩ | VY
 ·have Br:=(zCr.1 g1).1;have:=zCs.1 hk k (zCy.2 Br);rw [show (hb.getD k none).isSome=true by rw [u8,g1];rfl,zDR,zEC] at this;obtain ⟨o2,Z4⟩:=zE7.1 this;have Z4:h[k]? =some (some o2):=getD_some Z4;exact HR.dis i k o o2 p q x (by omega) h2 Z4 h3 (hS.pl k q g2) h4 g3
 ·omega
theorem Zg (hF:D4 F P) {ops:Array Oper} (A5:EB ops=true) {Q:Exit -> Act -> World -> Prop}: ∀ (Eh:List (List Nat×Nat)) (Bc tail:List Nat) {S:St} {ρ:List AJ} {a:Act} {w:World} {Aq:Bz} {S':St} {vs:List Prop} {CO:Bz} {hb:DH} {ρb:List AJ} {b:World},
 (tail.all fun t=>decide (t<ops.size))=true -> Ac P Γ N S ρ a w -> C5 hb ρb b S.h ρ w -> Ar b w -> hseq P Γ ops hb Eh Bc tail S Aq=some (S',vs,CO) -> Bm vs ->
 (∀ ρ' a' w',Ac P Γ N S' ρ' a' w' -> C5 S.h ρ w S'.h ρ' w' -> a'.defers=a.defers -> Q .normal a' w') -> O4 F 0 P ops Q b Eh Bc tail a w
 | [],Bc,tail,S,ρ,a,w,Aq,S',vs,CO,hb,ρb,b,ht,R,_,_,h,hv,hQ=>by
  simp only [hseq] at h;split at h
  ·cases h
  ·rename_i S1 Cw Sr h1;split at h
   ·cases h
   ·rename_i S2 FS G3 h2;cases h;obtain ⟨BZ,CG⟩:=Cz.1 hv;refine yq ht (Qp _ R h1 BZ fun a' e1 R' Dy=>?_);exact Ld hF A5 _ (YM tail) R' h2 CG fun ρ'' Fj CF Fk Dk HB=>hQ ρ'' Fj CF Fk (by rw [←e1];exact Dk) (HB.trans Dy)
 | (Ct,i)::Ez,Bc,tail,S,ρ,a,w,Aq,S',vs,CO,hb,ρb,b,ht,R,hS,hE,h,hv,hQ=>by
  have Df: ∃ ρb',C5 (bh Ct hb S.h) ρb' (bw Ct b w) S.h ρ w/\ Ar (bw Ct b w) w:=by
   cases Ct with
   | nil=>exact ⟨ρb,hS,hE⟩
   | cons s0 ss=>exact ⟨ρ,C5.refl _ _ _,Ar.refl w⟩
  obtain ⟨ρb',Lb,j9⟩:=Df;simp only [hseq] at h;split at h
  ·cases h
  ·rename_i S1 Cw Sr h1;split at h
   ·cases h
   ·rename_i o ho;split at h
    ·rename_i S2 FS G3 h2;split at h
     ·cases h
     ·rename_i S3 L7 J3 h3;cases h;obtain ⟨BZ,Cu⟩:=Cz.1 hv;obtain ⟨CG,IX⟩:=Cz.1 Cu
      show wpQuiet _ _ _ _ _ _
      refine Qp _ R h1 BZ fun a' e1 R' Dy=>?_
      unfold wpOpIn;simp only [ho];have hk:RT (bh Ct hb S.h) S1.h=true:=(lY (K:=fun _ _=>True) (Q:=fun _ _ _=>True) hF R' h2 CG fun _ _ _ _ _ _ _=>trivial).1;refine (lY hF R' h2 CG fun ρ'' Fj CF Fk Dk HB hu=>?_).2;rw [e1] at Dk hk;have hx:Ar (bw Ct b w) CF:=t6 R.hr Lb j9 hk (by rw [e1] at hu;exact hu);exact ⟨hx,Zg hF A5 Ez Bc tail ht Fk (Lb.trans Dk) hx h3 IX fun ρ3 a3 w3 R3 Ks aL=>hQ ρ3 a3 w3 R3 (Dk.trans Ks) (aL.trans (HB.trans Dy))⟩
    ·split at h
     ·cases h
     ·rename_i S2 FS ext G3 h2;split at h
      ·cases h
      ·split at h
       ·cases h
       ·rename_i S3 L7 J3 h3;cases h;obtain ⟨BZ,Cu⟩:=Cz.1 hv;obtain ⟨CG,IX⟩:=Cz.1 Cu
        show wpQuiet _ _ _ _ _ _
        refine Qp _ R h1 BZ fun a' e1 R' Dy=>?_
        unfold wpOpIn;simp only [ho];refine ba hF R' (IS A5 ho) h2 CG fun ρ'' Fj CF Fk Dk HB JR=>?_
        rw [e1] at Dk;have hx:Ar (bw Ct b w) CF:=j9.trans (JR rfl);exact ⟨hx,Zg hF A5 Ez Bc tail ht Fk (Lb.trans Dk) hx h3 IX fun ρ3 a3 w3 R3 Ks aL=>hQ ρ3 a3 w3 R3 (Dk.trans Ks) (aL.trans (HB.trans Dy))⟩
end
end Go.Proofs.YtgkhhfnhacibcaaGreatDoor
namespace Go.Proofs.YtgkhhfnhacibcaaGreatDoor
abbrev zD0:=@Nat.zero_le
end Go.Proofs.YtgkhhfnhacibcaaGreatDoor
namespace Go.Proofs.YtgkhhfnhacibcaaGreatDoor
open Go.RowKit
def Ef (L:Nat) (ρ ρ':List AJ):Prop:=∀ (k:Nat) (p:AJ),k<L -> ρ[k]? =some p -> ρ'[k]? =some p
theorem Ef.refl (L:Nat) (ρ:List AJ):Ef L ρ ρ:=fun _ _ _ h=>h
theorem Ef.trans {L:Nat} {a b c:List AJ} (h:Ef L a b) (k:Ef L b c):Ef L a c:=fun i p hi hp=>k i p hi (h i p hi hp)
structure Bd (F:Fence) (B:Option Nat) (w:World):Prop where
 le: ∀ b,B=some b -> b<=w.heap.size
 rd: ∀ l,F.round=some l -> ∃ r,w.heap[l]? =some (.loop r)
theorem Bd.step {P:Program} {Γ:A1} {N:Nat -> Prop} {h h':DH} {ρ ρ':List AJ} {F:Fence} {B:Option Nat} {w w':World} (b:Bd F B w) (H:BP P Γ N h ρ w) (st:BH h ρ w h' ρ' w'):Bd F B w':=
 ⟨fun x e=>zCv (b.le x e) st.upd.size,fun l hl=>by
  obtain ⟨r,hr⟩:=b.rd l hl;refine ⟨r,(st.upd.block l (zCl.1 hr).1 ?_).trans hr⟩;rintro ⟨k,o,p,h1,h2,h3⟩;obtain ⟨_,_,c,t,z,h4⟩:=H.cel k o p l h1 h2 h3;rw [hr] at h4;cases h4;cases t⟩
theorem Bd.wide {B:Nat} {w:World} (h:B<=w.heap.size):Bd Fence.wide (some B) w:=⟨fun b e=>by cases e;exact h,fun l hl=>by cases hl⟩
theorem Bd.none {w:World}:Bd Fence.wide none w:=⟨fun b e=>(by cases e),fun l hl=>by cases hl⟩
def Nn:Option Nat -> List Deferred -> World -> Prop
 | none,ds,_=>ds= []
 | some B,ds,w=>Ee B ds w
structure Bi (P:Program) (Γ:A1) (L:Nat) where
 I:(Nat -> Prop) -> DH -> List AJ -> World -> Prop
 st: ∀ {N:Nat -> Prop} {h:DH} {ρ:List AJ} {w:World} {h':DH} {ρ':List AJ} {w':World},I N h ρ w -> BP P Γ N h ρ w -> BP P Γ N h' ρ' w' -> BH h ρ w h' ρ' w' -> Ef L ρ ρ' -> I N h' ρ' w'
def QB (P:Program) (Γ:A1) (L:Nat) (N0:Nat -> Prop) (h0:DH) (ρ0:List AJ) (w0:World):Bi P Γ L where
 I:=fun N h ρ w=>N=N0/\ BH h0 ρ0 w0 h ρ w/\ Ef L ρ0 ρ
 st:=fun ⟨e,s,k⟩ _ _ st k'=>⟨e,s.trans st,k.trans k'⟩
abbrev QY (P:Program) (Γ:A1) (L:Nat):=Exit -> St -> Bi P Γ L -> Prop
def QE {P:Program} {Γ:A1} {L:Nat} (Q:QY P Γ L):Exit -> St -> Bi P Γ L -> Prop
 | .panic _,_,_=>False
 | .outgrown,_,_=>False
 | e,S,Y=>Q e S Y
def Tr (P:Program) (Γ:A1) (F:Fence) (B:Option Nat) (L:Nat) (Y:Bi P Γ L) (c:Code) (S:St) (Q:QY P Γ L):Prop:=
 ∀ N ρ a w,Ac P Γ N S ρ a w -> Y.I N S.h ρ w -> Nn B a.defers w -> Bd F B w ->
  c.wpIn F 0 P (fun e a' w'=>∃ S' ρ' N' Y',QE Q e S' Y'/\ Ac P Γ N' S' ρ' a' w'/\ Y'.I N' S'.h ρ' w'/\ Nn B a'.defers w'/\ Bd F B w') a w
def BO (L:Nat) (S S':St):Prop:=∀ P Γ N ρ a w,Ac P Γ N S ρ a w -> ∃ ρ',Ac P Γ N S' ρ' a w/\ BH S.h ρ w S'.h ρ' w/\ Ef L ρ ρ'
theorem BO.refl (L:Nat) (S:St):BO L S S:=fun _ _ _ ρ _ _ R=>⟨ρ,R,BH.refl _ _ _,Ef.refl _ _⟩
theorem BO.trans {L:Nat} {A B C:St} (h:BO L A B) (k:BO L B C):BO L A C:=fun P Γ N ρ a w R=>by
 obtain ⟨ρ1,R1,s1,k1⟩:=h P Γ N ρ a w R;obtain ⟨ρ2,R2,s2,k2⟩:=k P Γ N ρ1 a w R1;exact ⟨ρ2,R2,s1.trans s2,k1.trans k2⟩
section
variable {P:Program} {Γ:A1} {N:Nat -> Prop} {S:St} {F:Fence} {B:Option Nat} {L:Nat} {Y:Bi P Γ L} {Q Q':QY P Γ L}
theorem QE.mono (h: ∀ e S Y,Q e S Y -> Q' e S Y) {e:Exit} {S:St} (hq:QE Q e S Y):QE Q' e S Y:=by
 cases e <;> first | exact hq | exact h _ _ _ hq
theorem Tr.mono {c:Code} (h:Tr P Γ F B L Y c S Q) (hq: ∀ e S Y,Q e S Y -> Q' e S Y):Tr P Γ F B L Y c S Q':=fun N ρ a w R y m b=>
 zEe (h N ρ a w R y m b) fun _ _ _ ⟨S',ρ',N',Y',h1,h2⟩=>⟨S',ρ',N',Y',h1.mono hq,h2⟩
theorem Tr.weaken {c:Code} {S':St} (hS:BO L S S') (h:Tr P Γ F B L Y c S' Q):Tr P Γ F B L Y c S Q:=fun N ρ a w R y m b=>by
 obtain ⟨ρ1,R1,s1,k1⟩:=hS P Γ N ρ a w R;exact h N ρ1 a w R1 (Y.st y R.hr R1.hr s1 k1) m b
theorem RJ {ρ ρ':List AJ} {h':DH} {ds:List Deferred} {w w':World} (H:BP P Γ N S.h ρ w) (st:BH S.h ρ w h' ρ' w') (m:Nn B ds w):Nn B ds w':=by
 cases B with
 | none=>exact m
 | some B=>
 refine Ee.upd st.upd m fun k _ hk e=>?_
 obtain ⟨i,o,p,h1,h2,h3⟩:=hk;obtain ⟨_,_,c,t,z,h4⟩:=H.cel i o p k h1 h2 h3;rw [h4] at e;cases e;cases t
theorem Tr.skip (h:Q .normal S Y):Tr P Γ F B L Y .skip S Q:=fun N ρ _ _ R y m b=>wpIn_skip ⟨S,ρ,N,Y,h,R,y,m,b⟩
theorem Tr.ret (h:Q .ret S Y):Tr P Γ F B L Y .ret S Q:=fun N ρ _ _ R y m b=>wpIn_ret ⟨S,ρ,N,Y,h,R,y,m,b⟩
theorem Tr.exit {id:Nat} (h:Q (.exit id) S Y):Tr P Γ F B L Y (.exit id) S Q:=fun N ρ _ _ R y m b=>wpIn_exit ⟨S,ρ,N,Y,h,R,y,m,b⟩
def P5 (K:St -> Bi P Γ L -> Prop) (Q:QY P Γ L):QY P Γ L
 | .normal,S,Y=>K S Y
 | e,S,Y=>Q e S Y
theorem Tr.seq {x y:Code} (h:Tr P Γ F B L Y x S (P5 (fun S' Y'=>Tr P Γ F B L Y' y S' Q) Q)):Tr P Γ F B L Y (.seq x y) S Q:=fun N ρ a w R y m b=>by
 refine wpIn_seq (zEe (h N ρ a w R y m b) ?_);rintro e a' w' ⟨S',ρ',N',Y',h1,h2,h3,h4,h5⟩;cases e with
 | normal=>exact h1 N' ρ' a' w' h2 h3 h4 h5
 | ret=>exact ⟨S',ρ',N',Y',h1,h2,h3,h4,h5⟩
 | exit id=>exact ⟨S',ρ',N',Y',h1,h2,h3,h4,h5⟩
 | goto t=>exact ⟨S',ρ',N',Y',h1,h2,h3,h4,h5⟩
 | panic c=>exact h1.elim
 | outgrown=>exact h1.elim
theorem Tr.cond {c:Operand} {x y:Code} {b:Bool} (hc:Aa S.fr c= .bool b) (h1:b=true -> Tr P Γ F B L Y x S Q) (h2:b=false -> Tr P Γ F B L Y y S Q):Tr P Γ F B L Y (.cond c x y) S Q:=fun N ρ a w R y m bb=>by
 have hr:=Bo R c;rw [hc] at hr;refine wpIn_cond (t:=b) hr ?_;cases b
 ·exact h2 rfl N ρ a w R y m bb
 ·exact h1 rfl N ρ a w R y m bb
theorem m9 {F:Fence} {n:Nat} {P:Program} {Q:Exit -> Act -> World -> Prop} {a:Act} {w:World} {c:Code} (h:c.wpIn F n P (Exit.noGoto Q) a w):(Code.scope c).wpIn F n P Q a w:=by
 intro b k cs wm hb hr;have h0:(lone (b.atR a (.code (.scope c)::k)) cs w).fenced P F:=fenced_calm hb hr rfl;have s0:step P (lone (b.atR a (.code (.scope c)::k)) cs w)= .next (lone (b.atR a (.code c:: .inScope c::k)) cs w):=step_lone_go (by simp [stepG,stepG.exec,Frame.atR]);obtain ⟨e,a₁,w₁,hq,O9⟩:=h b (.inScope c::k) cs wm hb hr;have s1:step P (lone (b.atR a₁ (.inScope c::k)) cs w₁)= .next (lone (b.atR a₁ k) cs w₁):=step_lone_go (by simp [stepG,stepG.exec,Frame.atR]);cases e with
 | normal=>exact ⟨.normal,a₁,w₁,hq,.head h0 s0 (StepsIn.trans O9 (.one (fenced_calm hb hr rfl) s1))⟩
 | exit id=>exact ⟨.exit id,a₁,w₁,hq,fun k' hk=>.head h0 s0 (O9.1 k' hk),fun Cy hk=>let ⟨k₁,h1,h2⟩:=O9.2 Cy hk;⟨k₁,h1,.head h0 s0 h2⟩⟩
 | goto l=>exact hq.elim
 | ret=>exact ⟨_,a₁,w₁,hq,.of_steps (.one h0 s0) O9⟩
 | panic ch=>exact ⟨_,a₁,w₁,hq,.of_steps (.one h0 s0) O9⟩
 | outgrown=>exact ⟨_,a₁,w₁,hq,.of_steps (.one h0 s0) O9⟩
def tw (Q:QY P Γ L):QY P Γ L
 | .goto _,_,_=>False
 | e,S,Y=>Q e S Y
theorem Tr.scope {c:Code} (h:Tr P Γ F B L Y c S (tw Q)):Tr P Γ F B L Y (.scope c) S Q:=fun N ρ a w R y m b=>by
 refine m9 (zEe (h N ρ a w R y m b) ?_);rintro e a' w' ⟨S',ρ',N',Y',h1,h2⟩;cases e with
 | goto l=>exact h1.elim
 | _=>exact ⟨S',ρ',N',Y',h1,h2⟩
theorem Tr.label {l:Nat} (h:Q .normal S Y):Tr P Γ F B L Y (.label l) S Q:=fun N ρ a w R y m b=>wpIn_label ⟨S,ρ,N,Y,h,R,y,m,b⟩
def zBu (id:Nat) (Q:QY P Γ L):QY P Γ L
 | .exit i,S,Y=>if i=id then Q .normal S Y else Q (.exit i) S Y
 | e,S,Y=>Q e S Y
theorem Tr.block {id:Nat} {c:Code} (h:Tr P Γ F B L Y c S (zBu id Q)):Tr P Γ F B L Y (.block id c) S Q:=fun N ρ a w R y m b=>by
 refine wpIn_block (zEe (h N ρ a w R y m b) ?_);rintro e a' w' ⟨S',ρ',N',Y',h1,h2⟩;cases e with
 | exit i=>
  show if i=id then _ else _
  by_cases e:i=id
  ·rw [zB3 e];have h1:(if i=id then Q .normal S' Y' else Q (.exit i) S' Y'):=h1;rw [zB3 e] at h1;exact ⟨S',ρ',N',Y',h1,h2⟩
  ·rw [zCt e];have h1:(if i=id then Q .normal S' Y' else Q (.exit i) S' Y'):=h1;rw [zCt e] at h1;exact ⟨S',ρ',N',Y',h1,h2⟩
 | normal=>exact ⟨S',ρ',N',Y',h1,h2⟩
 | ret=>exact ⟨S',ρ',N',Y',h1,h2⟩
 | goto t=>exact ⟨S',ρ',N',Y',h1,h2⟩
 | panic c=>exact h1.elim
 | outgrown=>exact h1.elim
theorem Tr.loop {c:Code} (I:Nat -> St -> Bi P Γ L -> Prop) (n:Nat) (h0:I n S Y) (h: ∀ n S Y,I n S Y -> Tr P Γ F B L Y c S (P5 (fun S' Y'=>∃ n',n'<n/\ I n' S' Y') Q)):Tr P Γ F B L Y (.loop c) S Q:=fun N ρ a w R y m b=>by
 refine wpIn_loop_ghost (fun k a' w'=>∃ S' ρ' N' Y',I k S' Y'/\ Ac P Γ N' S' ρ' a' w'/\ Y'.I N' S'.h ρ' w'/\ Nn B a'.defers w'/\ Bd F B w') n ⟨S,ρ,N,Y,h0,R,y,m,b⟩ ?_;rintro k a' w' ⟨S',ρ',N',Y',h1,h2,h3,h4,h5⟩;refine zEe (h k S' Y' h1 N' ρ' a' w' h2 h3 h4 h5) ?_;rintro e a2 w2 ⟨S2,ρ2,N2,Y2,g1,g2,g3,g4,g5⟩;cases e with
 | normal=>
  obtain ⟨n',AL,hI⟩:=g1;exact ⟨n',AL,S2,ρ2,N2,Y2,hI,g2,g3,g4,g5⟩
 | ret=>exact ⟨S2,ρ2,N2,Y2,g1,g2,g3,g4,g5⟩
 | exit id=>exact ⟨S2,ρ2,N2,Y2,g1,g2,g3,g4,g5⟩
 | goto t=>exact ⟨S2,ρ2,N2,Y2,g1,g2,g3,g4,g5⟩
 | panic c=>exact g1.elim
 | outgrown=>exact g1.elim
theorem Ac.ext {ρ:List AJ} {a:Act} {w w':World} (R:Ac P Γ N S ρ a w) (hE:Ar w w'):Ac P Γ N S ρ a w':=⟨R.hr.ext hE,R.fr.out (BV.ext ρ hE)⟩
theorem Tr.done {S':St} {e:Exit} {ρ ρ':List AJ} {a a':Act} {w w':World} (R:Ac P Γ N S ρ a w) (y:Y.I N S.h ρ w) (m:Nn B a.defers w) (b:Bd F B w) (hk:QE Q e S' Y) (R':Ac P Γ N S' ρ' a' w') (st:BH S.h ρ w S'.h ρ' w') (Z9:Ef L ρ ρ') (Dy:a'.defers=a.defers):
 ∃ S' ρ' N' Y',QE Q e S' Y'/\ Ac P Γ N' S' ρ' a' w'/\ Y'.I N' S'.h ρ' w'/\ Nn B a'.defers w'/\ Bd F B w':=
 ⟨S',ρ',N,Y,hk,R',Y.st y R.hr R'.hr st Z9,by rw [Dy];exact RJ R.hr st m,b.step R.hr st⟩
theorem BO.fr {fr NQ:List DV} {h:DH} (hl:NQ.length=fr.length) (hd: ∀ i,i<fr.length -> AQ (fr.getD i .any) (NQ.getD i .any)):BO L ⟨fr,h⟩ ⟨NQ,h⟩:=fun P Γ N ρ a w R=>
 ⟨ρ,⟨R.hr,⟨by rw [hl];exact R.fr.1,fun i hi=>hd i (by rw [←hl];exact hi) _ _ _ _ (R.fr.2 i (by rw [←hl];exact hi))⟩⟩,BH.refl _ _ _,Ef.refl _ _⟩
theorem AQ.refl (d:DV):AQ d d:=fun _ _ _ _ h=>h
theorem AQ.any (d:DV):AQ d .any:=fun _ _ _ _ _=>trivial
theorem AQ.int {k:IntKind} {a b:Int} (h:a=b):AQ (.int k a) (.int k b):=by rw [h];exact AQ.refl _
theorem AQ.bool {a b:Bool} (h:a=b):AQ (.bool a) (.bool b):=by rw [h];exact AQ.refl _
theorem AQ.ints_nil:AQ .nils (.ints []):=fun M w ρ v h=>⟨none,0,h,zC6 _,zD0 _,fun j hj=>absurd hj (zCz j)⟩
theorem AQ.sl_nil (m:Nat) (f:Nat -> Nat -> DV):AQ .nils (.sl m 0 f):=fun M w ρ v h=>⟨none,0,h,zC6 _,zD0 _,fun i j hi=>absurd hi (zCz i)⟩
def forget (live:List Nat) (fr:List DV):List DV:=(fr.zipIdx).map fun x=>if live.contains x.2 then x.1 else .any
theorem zz (live:List Nat) (fr:List DV):(forget live fr).length=fr.length:=by simp [forget]
theorem z2 (live:List Nat) (fr:List DV) {i:Nat} (hi:i<fr.length):(forget live fr).getD i .any=if live.contains i then fr.getD i .any else .any:=by
 simp [forget,hi]
theorem BO.forget (live:List Nat) (fr:List DV) (h:DH):BO L ⟨fr,h⟩ ⟨forget live fr,h⟩:=BO.fr (zz _ _) fun i hi=>by
 rw [z2 live fr hi];split
 ·exact AQ.refl _
 ·exact AQ.any _
def C9:List Nat -> Nat -> Option Nat
 | [],_=>none
 | x::σ,k=>if x=k then some 0 else (C9 σ k).map (· +1)
def FV (σ:List Nat):DV -> DV
 | .ref k j=>match C9 σ k with
  | some k'=>.ref k' j
  | none=>.any
 | .mse k m off n=>match C9 σ k with
  | some k'=>.mse k' m off n
  | none=>.any
 | .mri k i=>match C9 σ k with
  | some k'=>.mri k' i
  | none=>.any
 | .msl k m off n=>match C9 σ k with
  | some k'=>.msl k' m off n
  | none=>.any
 | .mp k m i j=>match C9 σ k with
  | some k'=>.mp k' m i j
  | none=>.any
 | .it k=>match C9 σ k with
  | some k'=>.it k'
  | none=>.any
 | .agg m f=>.agg m fun j=>((List.range m).map fun i=>FV σ (f i)).getD j .any
 | .tup m f=>.tup m fun j=>((List.range m).map fun i=>FV σ (f i)).getD j .any
 | .fn g m c=>.fn g m fun j=>((List.range m).map fun i=>FV σ (c i)).getD j .any
 | d=>d
def UK (σ:List Nat):Option DO -> Option DO
 | some (.cells l)=>some (.cells (l.map (FV σ)))
 | o=>o
def Fg (σ:List Nat) (S:St):St:=⟨S.fr.map (FV σ),σ.map fun k=>UK σ (S.h.getD k none)⟩
theorem I5: ∀ {σ:List Nat} {k k':Nat},C9 σ k=some k' -> σ[k']? =some k
 | [],_,_,h=>by cases h
 | x::σ,k,k',h=>by
  unfold C9 at h;split at h
  ·rename_i e;cases h;subst e;rfl
  ·cases hr:C9 σ k with
   | none=>rw [hr] at h;cases h
   | some i=>
    rw [hr] at h;have e:k'=i+1:=(zCq h).symm;subst e;have:=I5 hr;simpa using this
theorem sU {f:Nat -> DV} {m j:Nat} (hj:j<m):((List.range m).map f).getD j .any=f j:=by simp [hj]
theorem YB {M:Nat -> Prop} {w:World} {ρ:List AJ} {f:Nat -> DV} {m j:Nat} {u:Value} (hj:j<m) (h:AK M w (f j) ρ u):AK M w (((List.range m).map f).getD j .any) ρ u:=by rw [sU hj];exact h
theorem rt {M M':Nat -> Prop} {w:World} {σ:List Nat} {ρ ρ':List AJ} (hM: ∀ b,M' b -> M b) (hρ: ∀ (k k':Nat) (p:AJ),σ[k']? =some k -> ρ[k]? =some p -> ρ'[k']? =some p): ∀ (d:DV) {v:Value},AK M w d ρ v -> AK M' w (FV σ d) ρ' v:=by
 have low: ∀ (d:DV) {v:Value},AK M w d [] v -> AK M' w d [] v:=fun d v h=>h.out d ⟨fun _ _ _ _=>rfl,fun b hb=>.inl (hM b hb),fun k p hk=>by simp at hk⟩
 intro d
 induction d with
 | any=>intro v _;trivial
 | nils=>intro v h;exact h
 | int k n=>intro v h;exact h
 | bool b=>intro v h;exact h
 | str s=>intro v h;exact h
 | ints l=>intro v h;exact low (.ints l) h
 | bools l=>intro v h;exact low (.bools l) h
 | sl m n f _=>intro v h;exact low (.sl m n f) h
 | fp m f _=>intro v h;exact low (.fp m f) h
 | agg m f ih=>
  rintro v ⟨cs,e,hs,h⟩;exact ⟨cs,e,hs,fun j hj=>let ⟨u,h1,h2⟩:=h j hj;⟨u,h1,YB hj (ih j h2)⟩⟩
 | tup m f ih=>
  rintro v ⟨cs,e,hs,h⟩;exact ⟨cs,e,hs,fun j hj=>let ⟨u,h1,h2⟩:=h j hj;⟨u,h1,YB hj (ih j h2)⟩⟩
 | fn g m c ih=>
  rintro v ⟨cs,e,hs,h⟩;exact ⟨cs,e,hs,fun j hj=>let ⟨u,h1,h2⟩:=h j hj;⟨u,h1,YB hj (ih j h2)⟩⟩
 | ref k j=>
  rintro v ⟨p,hp,e⟩;simp only [FV];cases hk:C9 σ k with
  | none=>trivial
  | some k'=>exact ⟨p,hρ k k' p (I5 hk) hp,e⟩
 | msl k m off n=>
  rintro v ⟨p,cap,hp,r⟩;simp only [FV];cases hk:C9 σ k with
  | none=>trivial
  | some k'=>exact ⟨p,cap,hρ k k' p (I5 hk) hp,r⟩
 | mp k m i j=>
  rintro v ⟨p,hp,e⟩;simp only [FV];cases hk:C9 σ k with
  | none=>trivial
  | some k'=>exact ⟨p,hρ k k' p (I5 hk) hp,e⟩
 | yl l=>intro v h;exact h
 | cst u=>intro v h;exact h
 | mse k m off n=>
  rintro v ⟨p,a,cap,hp,r⟩;simp only [FV];cases hk:C9 σ k with
  | none=>trivial
  | some k'=>exact ⟨p,a,cap,hρ k k' p (I5 hk) hp,r⟩
 | mri k i=>
  rintro v ⟨p,vs,hp,r⟩;simp only [FV];cases hk:C9 σ k with
  | none=>trivial
  | some k'=>exact ⟨p,vs,hρ k k' p (I5 hk) hp,r⟩
 | it k=>
  rintro v ⟨p,hp,e⟩;simp only [FV];cases hk:C9 σ k with
  | none=>trivial
  | some k'=>exact ⟨p,hρ k k' p (I5 hk) hp,e⟩
def Yf:AJ:=⟨0,0,0,undef,fun _=>False⟩
theorem BO.compact (σ:List Nat) (S:St) (h1:σ.Nodup) (h2: ∀ k∈σ,k<S.h.length) (h3: ∀ k,k<L -> σ[k]? =some k):BO L S (Fg σ S):=fun P Γ N ρ a w R=>by
 obtain ⟨ρ',GJ⟩: ∃ ρ',ρ'=σ.map fun k=>ρ.getD k Yf:=⟨_,rfl⟩
 have Ig: ∀ {k':Nat} {p:AJ},ρ'[k']? =some p -> ∃ k,σ[k']? =some k/\ ρ[k]? =some p:=fun {k' p} h=>by
  rw [GJ,zC1] at h;cases hk:σ[k']? with
  | none=>rw [hk] at h;cases h
  | some k=>
   rw [hk] at h;have AL:k<ρ.length:=by rw [R.hr.len];exact h2 k (zDN hk)
   refine ⟨k,rfl,?_⟩;simp [AL] at h;simp [AL,h]
 have put: ∀ (k k':Nat) (p:AJ),σ[k']? =some k -> ρ[k]? =some p -> ρ'[k']? =some p:=fun k k' p hk hp=>by
  rw [GJ,zC1,hk];simp [u8,hp]
 have Ic: ∀ {k':Nat} {o':DO},(Fg σ S).h[k']? =some (some o') -> ∃ k o,σ[k']? =some k/\ S.h[k]? =some (some o)/\ UK σ (some o)=some o':=fun {k' o'} h=>by
  show ∃ k o,_
  have h:(σ.map fun k=>UK σ (S.h.getD k none))[k']? =some (some o'):=h;rw [zC1] at h;cases hk:σ[k']? with
  | none=>rw [hk] at h;cases h
  | some k=>
   rw [hk] at h;have AL:k<S.h.length:=h2 k (zDN hk);have h:UK σ (S.h.getD k none)=some o':=zCq h;have e:S.h.getD k none=S.h[k]:=by simp [AL]
   rw [e] at h;cases ho:S.h[k] with
   | none=>rw [ho] at h;cases h
   | some o=>rw [ho] at h;exact ⟨k,o,rfl,by simp [AL,ho],h⟩
 have hM: ∀ b,MO (Fg σ S).h ρ' b -> MO S.h ρ b:=by
  rintro b ⟨k',o',p,g1,g2,g3⟩;obtain ⟨k,o,e1,e2,_⟩:=Ic g1;obtain ⟨k2,e3,e4⟩:=Ig g2;have:k2=k:=zCq (e3.symm.trans e1);subst this;exact ⟨k2,o,p,e2,e4,g3⟩
 have aY: ∀ b,MS N (Fg σ S).h ρ' b -> MS N S.h ρ b:=fun b hb=>hb.imp id (hM b)
 have O:BV (MS N S.h ρ) w [] (MS N (Fg σ S).h ρ') w []:=⟨fun _ _ _ _=>rfl,fun b hb=>.inl (aY b hb),fun k p hk=>by simp at hk⟩;have low: ∀ (d:DV) {v:Value},AK (MS N S.h ρ) w d ρ v -> AK (MS N (Fg σ S).h ρ') w (FV σ d) ρ' v:=fun d v h=>rt aY put d h
 refine ⟨ρ',⟨⟨by simp [GJ,Fg],fun k' o' Cv=>?_,fun k' o' p b g1 g2 g3=>?_,fun i i' o1 o2 p1 p2 b AY g1 g2 g3 g4 g5 g6=>?_,R.hr.nlt,R.hr.gi⟩,⟨by simp [Fg,R.fr.1],fun i hi=>?_⟩⟩,⟨AO.refl _ w,fun b hb=>.inl (hM b hb)⟩,fun k p hk hp=>put k k p (h3 k hk) hp⟩
 ·obtain ⟨k,o,e1,e2,e3⟩:=Ic Cv;obtain ⟨p,hp,hr⟩:=R.hr.obj k o e2;refine ⟨p,put k k' p e1 hp,?_⟩;cases o with
  | cells l=>
   cases e3
   show Ab w p (l.map (FV σ)).length _
   rw [zDe];refine Ab.out hr rfl fun j u hj hu=>?_
   have:(l.map (FV σ)).getD j .any=FV σ (l.getD j .any):=by simp [hj]
   rw [this];exact low _ hu
  | ints l=>cases e3;exact Ab.out hr rfl fun j u _ hu=>hu
  | bools l=>cases e3;exact Ab.out hr rfl fun j u _ hu=>hu
  | arr m n f=>cases e3;exact Ab.out hr rfl fun j u _ hu=>AK.out _ O hu
  | iter encs=>
   cases e3;obtain ⟨gf,lb,Rd,q1,q2,q3,q4⟩:=hr;exact ⟨gf,lb,Rd,q1,q2,fun b hb=>⟨fun hm=>(q3 b hb).1 (aY b hm),(q3 b hb).2⟩,q4⟩
  | mo x=>cases e3;exact hr
 ·obtain ⟨k,o,e1,e2,_⟩:=Ic g1;obtain ⟨k2,e3,e4⟩:=Ig g2;have:k2=k:=zCq (e3.symm.trans e1);subst this;exact R.hr.cel k2 o p b e2 e4 g3
 ·obtain ⟨k,o,e1,e2,_⟩:=Ic g1;obtain ⟨k2,o2,e3,e4,_⟩:=Ic g2;obtain ⟨k3,e5,e6⟩:=Ig g3;obtain ⟨k4,e7,e8⟩:=Ig g4;have:k3=k:=zCq (e5.symm.trans e1);subst this;have:k4=k2:=zCq (e7.symm.trans e3);subst this;refine R.hr.dis k3 k4 o o2 p1 p2 b (fun e=>AY ?_) e2 e4 e6 e8 g5 g6;subst e;exact (List.getElem?_inj (zCr.1 e5).1 h1).1 (e5.trans e7.symm)
 ·have BD:i<S.fr.length:=by simpa [Fg] using hi
  have:(Fg σ S).fr.getD i .any=FV σ (S.fr.getD i .any):=by simp [Fg,BD]
  rw [this];exact low _ (R.fr.2 i BD)
end
end Go.Proofs.YtgkhhfnhacibcaaGreatDoor
namespace Go.Proofs.YtgkhhfnhacibcaaGreatDoor
open Go.RowKit
def fS (P:Program) (S:St):ResultVar -> Option DV
 | .tmp t=>some (S.fr.getD t .any)
 | .cell x t=>match S.fr.getD x .any with
  | .ref k j=>match Mr P S t (.ref k j) with
   | some (d,_)=>some d
   | none=>none
  | _=>none
def OI (P:Program) (S:St):List ResultVar -> Option (List DV)
 | []=>some []
 | r::rs=>match fS P S r with
  | some d=>match OI P S rs with
   | some ds=>some (d::ds)
   | none=>none
  | none=>none
def I1:List DV -> DV
 | [d]=>d
 | ds=>.tup ds.length fun j=>ds.getD j .any
section
variable {P:Program} {Γ:A1} {N:Nat -> Prop} {S:St} {ρ:List AJ} {a:Act} {w:World}
theorem uX {t:TypeId} {k j:Nat} {d:DV} {vc:Prop} (h:Mr P S t (.ref k j)=some (d,vc)):vc:=by
 unfold Mr at h
 repeat' (split at h)
 all_goals first | (cases h;trivial) | (cases h;done) | (simp_all;done)
def UJ (tmps:Array Value):ResultVar -> Sem Value
 | .tmp t=>pure (tmps.getD t undef)
 | .cell x t=>do loadVar t (←asAddr (tmps.getD x undef))
theorem fT (R:Ac P Γ N S ρ a w): ∀ (rs:List ResultVar) (ds:List DV),OI P S rs=some ds -> ∃ vs:List Value,(rs.mapM (UJ a.tmps)).run P w= .ok vs w/\ vs.length=ds.length/\ ∀ i,i<ds.length -> AK (MS N S.h ρ) w (ds.getD i .any) ρ (vs.getD i undef)
 | [],ds,h=>by
  cases h;exact ⟨[],rfl,rfl,fun i hi=>absurd hi (zCz i)⟩
 | r::rs,ds,h=>by
  simp only [OI] at h;split at h
  ·rename_i d hd;split at h
   ·rename_i ds' Ff;cases h;obtain ⟨vs,h1,h2,h3⟩:=fT R rs ds' Ff
    obtain ⟨v,g1,g2⟩: ∃ v,(UJ a.tmps r).run P w= .ok v w/\ AK (MS N S.h ρ) w d ρ v:=by
     unfold fS at hd;split at hd
     ·cases hd;exact ⟨_,rfl,R.fr.at _⟩
     ·rename_i x t;split at hd
      ·rename_i k j e;split at hd
       ·rename_i d' vc hl;cases hd;have hx:=R.fr.at x;rw [e] at hx;obtain ⟨v,q1,q2⟩:=iH R hx hl (uX hl);obtain ⟨p,hp,hv⟩:=hx;have q:=q1 w (Keep.ofExt (Ar.refl w));rw [hv,Xz] at q;refine ⟨v,?_,q2⟩
        show (do loadVar t (←asAddr (a.tmps.getD x undef)):Sem Value).run P w=_
        rw [hv];exact q
       ·cases hd
      ·cases hd
    refine ⟨v::vs,?_,by simp [h2],fun i hi=>?_⟩
    ·rw [List.mapM_cons,zC3,g1];simp only [Result.andThen,zC3,h1,zE1]
    ·cases i with
     | zero=>exact g2
     | succ i=>exact h3 i (by simpa using hi)
   ·cases h
  ·cases h
theorem fR (R:Ac P Γ N S ρ a w) {fn:Func} {ds:List DV} (h:OI P S fn.results.toList=some ds): ∃ v,(results fn a.tmps).run P w= .ok v w/\ AK (MS N S.h ρ) w (I1 ds) ρ v:=by
 obtain ⟨vs,h1,h2,h3⟩:=fT R _ _ h
 have hm:(fn.results.mapM (UJ a.tmps)).run P w= .ok vs.toArray w:=by
  rw [Array.mapM_eq_mapM_toList,←bind_pure_comp,zC3,h1];rfl
 have Vf:(results fn a.tmps).run P w= .ok (if h:vs.toArray.size=1 then vs.toArray[0] else .tuple vs.toArray) w:=by
  show (do let vs←fn.results.mapM (UJ a.tmps);pure (if h:vs.size=1 then vs[0] else .tuple vs):Sem Value).run P w=_
  rw [zC3,hm];rfl
 refine ⟨_,Vf,?_⟩
 match ds,vs,h2,h3 with
 | [],[],_,_=>exact ⟨#[],rfl,rfl,fun j hj=>absurd hj (zCz j)⟩
 | [d],[v],_,h3=>exact h3 0 (by simp)
 | d::d'::ds,v::v'::vs,h2,h3=>
  have: ¬ ((v::v'::vs).toArray.size=1):=by simp
  rw [dif_neg this];refine ⟨_,rfl,by simpa using h2,fun j hj=>?_⟩;have A3:j<(v::v'::vs).length:=by rw [h2];exact hj
  exact ⟨(v::v'::vs).getD j undef,by simp only [zFK,u8,zAe A3];rfl,h3 j hj⟩
def RG (h:DH):Prop:=∀ (k:Nat) (encs:List (Array Value)),h[k]? ≠some (some (.iter encs))
theorem Ac.shut (R:Ac P Γ N S ρ a w) (hi:RG S.h) {B:Nat} (hB:Γ.ng<=B) {W:World} (hs:TO B w W):Ac P Γ N S ρ a W:=by
 have nc: ∀ {b:Nat},DW w b -> W.heap[b]? =w.heap[b]? :=fun {b} ⟨c,t,z,h⟩=>
  hs.block b (zCl.1 h).1 fun hx=>by rw [h] at hx;cases hx.2;cases t
 have O:BV (MS N S.h ρ) w ρ (MS N S.h ρ) W ρ:=⟨fun b _ _ ⟨_,_,_,hc⟩=>nc (.cells hc),fun b h=>.inl h,fun _ _ h=>h⟩
 have hr: ∀ {p:AJ} {n:Nat} {Rw:Nat -> Value -> Prop},Ab w p n Rw -> W.heap[p.blk]? =w.heap[p.blk]? :=fun {p n Rw} h=>by
  obtain ⟨_,cs,t,h2,_⟩:=h;exact nc (.cells h2)
 refine ⟨⟨R.hr.len,fun k o hk=>?_,fun k o p b h1 h2 h3=>?_,R.hr.dis,fun b hb=>⟨zCu (R.hr.nlt b hb).1 hs.size,(R.hr.nlt b hb).2⟩,Γ.st _ _ R.hr.gi (hs.mono fun i _ hx=>zCv hB hx.1)⟩,R.fr.out O⟩
 ·obtain ⟨p,hp,ho⟩:=R.hr.obj k o hk;refine ⟨p,hp,?_⟩;cases o with
  | cells l=>exact Ab.out ho (hr ho) fun j u _ hu=>AK.out _ O hu
  | ints l=>exact Ab.out ho (hr ho) fun j u _ hu=>hu
  | bools l=>exact Ab.out ho (hr ho) fun j u _ hu=>hu
  | arr m n f=>exact Ab.out ho (hr ho) fun j u _ hu=>AK.out _ O.nil hu
  | iter encs=>exact absurd hk (hi k encs)
  | mo x=>exact Ly.out ho fun b hb AL=>nc (R.hr.cel k _ p b hk hp hb).2.2
 ·obtain ⟨g1,g2,c,t,z,g3⟩:=R.hr.cel k o p b h1 h2 h3;exact ⟨g1,g2,c,t,z,(nc ⟨c,t,z,g3⟩).trans g3⟩
theorem BH.shut {h0 h:DH} {ρ0 ρ:List AJ} {w0 w W:World} (st:BH h0 ρ0 w0 h ρ w) (hs:TO w0.heap.size w W):BH h0 ρ0 w0 h ρ W:=
 ⟨st.upd.comp hs fun i hi hx=>absurd hx.1 (by omega),st.grow⟩
theorem CA.anys (M:Nat -> Prop) (w:World) (ρ:List AJ) (n:Nat):CA M w ρ (List.replicate n .any) (Array.replicate n undef):=
 ⟨by simp,fun i hi=>by
  have:(List.replicate n DV.any).getD i .any= .any:=by
   rw [u8,zDc];split <;> rfl
  rw [this];trivial⟩
def H4 (d:DV):Prop:=∀ (M:Nat -> Prop) (w:World) (ρ:List AJ) (v:Value),AK M w d ρ v -> AK M w d [] v
def zCn (L:Nat) (S:St) (rs:List DV) (d:DV) (h':DH):Prop:=
 (AQ (I1 rs) d/\ S.h=h')∨(RG S.h/\ AQ (I1 rs) d/\ H4 d/\ L<=S.h.length/\ (Fg (List.range L) S).h=h')
def F3 (P:Program) (fn:Func) (L:Nat) (d:DV) (h':DH) (e:Exit) (S':St):Prop:=
 (e= .normal∨e= .ret)/\ ∃ Cs,BO L S' Cs/\ ∃ rs,OI P Cs fn.results.toList=some rs/\ zCn L Cs rs d h'
theorem ES.of_tr {f:Nat} {fn:Func} {c:Code} {ds:List DV} {h:DH} {d:DV} {h':DH} {ext:Bool} (hf:P.funcs[f]? =some fn) (hb:fn.body=some c) (KH:fn.name≠ "runtime.NumGoroutine") (hni:RG h')
 (H: ∀ (B:Nat) (N:Bi P Γ h.length),Tr P Γ Fence.wide (some B) h.length N c ⟨ds++List.replicate (fn.ntmps-ds.length) .any,h⟩ (fun e S Y=>Y=N/\ F3 P fn h.length d h' e S)) (JR:ext=true -> h= []):ES P Γ f ds h d h' ext:=by
 refine ⟨⟨fn,hf,KH,by rw [hb];rfl⟩,fun N ρ w args HR Ce=>?_⟩;refine zBm w.heap.size hf hb ?_;have Ah:ds.length=args.size:=Ce.1
 have R:Ac P Γ N ⟨ds++List.replicate (fn.ntmps-ds.length) .any,h⟩ ρ { tmps:=args++Array.replicate (fn.ntmps-args.size) undef,defers:=[] } w:=
  ⟨HR,CA.append Ce (by rw [Ah];exact CA.anys _ _ _ _)⟩
 have:=H w.heap.size (QB P Γ h.length N h ρ w) N ρ _ w R ⟨rfl,BH.refl _ _ _,Ef.refl _ _⟩ trivial (Bd.wide (zC6 _));refine wpIn_wide.1 (zEe this ?_);rintro e a' w' ⟨S',ρ',N',Y',h1,h2,h3,h4,h5⟩
 have key:Y'=QB P Γ h.length N h ρ w -> F3 P fn h.length d h' e S' -> Ee w.heap.size a'.defers w'/\ ∀ W,TO w.heap.size w' W -> ∃ v,(results fn a'.tmps).run P W= .ok v W/\ ∃ v',Ending.returned v= .returned v'/\ DJ P Γ N h ρ w ext d h' v' W:=by
  rintro rfl ⟨_,Cs,Bx,rs,Vd,hd | ⟨hi,hd,hn,hl,hh⟩⟩
  all_goals
   obtain ⟨e0,h3,h5⟩:=h3;have e0:=e0.symm;subst e0
  ·obtain ⟨hd,rfl⟩:=hd;refine ⟨h4,fun W hW=>?_⟩;obtain ⟨ρ'',Fk,Xc,ZA⟩:=Bx P Γ N ρ' a' w' h2;have RW:=Fk.shut hni (Γ.lo _ HR.gi) hW;obtain ⟨v,g1,g2⟩:=fR RW Vd;have st:BH h ρ w Cs.h ρ'' W:=(h3.trans Xc).shut hW;refine ⟨v,g1,v,rfl,⟨⟨ρ'',RW.hr,hd _ _ _ _ g2,st,fun k p hp=>?_⟩,fun he=>?_⟩⟩
   ·have hk:k<h.length:=by rw [←HR.len];exact (zCr.1 hp).1
    exact ZA k p hk (h5 k p hk hp)
   ·have:=JR he;subst this;exact st.upd.toExt fun i _ ⟨k,o,p,q1,_⟩=>by simp at q1
  ·refine ⟨h4,fun W hW=>?_⟩;obtain ⟨ρ'',Fk,Xc,ZA⟩:=Bx P Γ N ρ' a' w' h2;have RW:=Fk.shut hi (Γ.lo _ HR.gi) hW;obtain ⟨v,g1,g2⟩:=fR RW Vd;have st:BH h ρ w Cs.h ρ'' W:=(h3.trans Xc).shut hW;obtain ⟨ρ3,R3,Ks,k3⟩:=BO.compact (L:=h.length) (List.range h.length) Cs List.nodup_range (fun k hk=>zCu (zCy.1 hk) hl) (fun k hk=>by simp [hk]) P Γ N ρ'' a' W RW;rw [hh] at Ks;have mn:=R3.hr;rw [hh] at mn;refine ⟨v,g1,v,rfl,⟨⟨ρ3,mn,?_,st.trans Ks,fun k p hp=>?_⟩,fun he=>?_⟩⟩
   ·have r0:=hn _ _ _ _ (hd _ _ _ _ g2);have r1:AK (MS N h' ρ3) W d [] v:=AK.out _ ⟨fun _ _ _ _=>rfl,fun b hb=>hb.elim (fun hx=>.inl (.inl hx)) fun hx=>(Ks.grow b hx).imp .inr id,fun _ _ hx=>by simp at hx⟩ r0;exact AK.out _ ⟨fun _ _ _ _=>rfl,fun b hb=>.inl hb,fun _ _ hx=>by simp at hx⟩ r1
   ·have hk:k<h.length:=by rw [←HR.len];exact (zCr.1 hp).1
    exact k3 k p hk (ZA k p hk (h5 k p hk hp))
   ·have:=JR he;subst this;exact (st.trans Ks).upd.toExt fun i _ ⟨k,o,p,q1,_⟩=>by simp at q1
 cases e with
 | normal=>exact key h1.1 h1.2
 | ret=>exact key h1.1 h1.2
 | exit id=>exact absurd h1.2.1 (by simp)
 | goto t=>exact absurd h1.2.1 (by simp)
 | panic ch=>exact h1.elim
 | outgrown=>exact h1.elim
def Gk (d:DV):Prop:=∀ (M M':Nat -> Prop) (w w':World) (ρ ρ':List AJ) (v:Value),AK M w d ρ v -> AK M' w' d ρ' v
theorem H4.agg {m:Nat} {f:Nat -> DV} (h: ∀ j,j<m -> H4 (f j)):H4 (.agg m f):=fun M w ρ _ ⟨cs,e,hs,hc⟩=>⟨cs,e,hs,fun j hj=>let ⟨u,h1,h2⟩:=hc j hj;⟨u,h1,h j hj M w ρ u h2⟩⟩
theorem H4.tup {m:Nat} {f:Nat -> DV} (h: ∀ j,j<m -> H4 (f j)):H4 (.tup m f):=fun M w ρ _ ⟨cs,e,hs,hc⟩=>⟨cs,e,hs,fun j hj=>let ⟨u,h1,h2⟩:=hc j hj;⟨u,h1,h j hj M w ρ u h2⟩⟩
theorem Gk.int (k:IntKind) (n:Int):Gk (.int k n):=fun _ _ _ _ _ _ _ h=>h
theorem Gk.bool (b:Bool):Gk (.bool b):=fun _ _ _ _ _ _ _ h=>h
theorem Gk.tup {m:Nat} {f:Nat -> DV} (h: ∀ j,j<m -> Gk (f j)):Gk (.tup m f):=fun M M' w w' ρ ρ' _ ⟨cs,e,hs,hc⟩=>⟨cs,e,hs,fun j hj=>let ⟨u,h1,h2⟩:=hc j hj;⟨u,h1,h j hj M M' w w' ρ ρ' u h2⟩⟩
theorem Ot {M:Nat -> Prop} (hM: ∀ b,M b -> b<w.heap.size/\ Γ.ng<=b) (hg:Γ.gi w):BP P Γ M [] [] w:=
 ⟨rfl,fun k o hk=>by simp at hk,fun k o p b h1=>by simp at h1,fun k k' o o' p p' b _ h1=>by simp at h1,hM,hg⟩
theorem No {M:Nat -> Prop} {b:Nat}:MS M [] [] b↔M b:=⟨fun h=>h.elim id fun ⟨k,o,p,h1,_⟩=>by simp at h1,.inl⟩
theorem ES.frame {f:Nat} {ds:List DV} {d:DV} (h0:ES P Γ f ds [] d [] true) (Ff: ∀ x∈ds,H4 x) (h:DH):ES P Γ f ds h d h true:=by
 refine ⟨h0.1,fun N ρ w args HR Ce=>?_⟩;refine (h0.2 (MS N h ρ) [] w args (Ot (fun b hb=>HR.lt2 hb) HR.gi) ⟨Ce.1,fun i hi=>?_⟩).mono ?_
 ·have hx:=Ff (ds.getD i .any) (by simp [hi]);exact AK.out _ (Db (fun b hb=>No.1 hb) []) (hx _ _ _ _ (Ce.2 i hi))
 ·rintro e w' ⟨v,rfl,⟨⟨ρ',g1,g2,g3,g4⟩,g5⟩⟩;have hE:=g5 rfl;have hρ:ρ'= []:=zDl (by rw [g1.len];rfl);subst hρ;exact ⟨v,rfl,⟨⟨ρ,HR.ext hE,OJ (AK.out _ (Db (fun b hb=>No.2 hb) []) g2),BH.ext hE,fun _ _ h=>h⟩,g5⟩⟩
def AR (h:DH) (d d0:DV):Prop:=∀ (P:Program) (Γ:A1) (N:Nat -> Prop) (ρ:List AJ) (w:World) (v:Value),BP P Γ N h ρ w -> AK (MS N h ρ) w d ρ v -> AK (fun _=>False) w d0 [] v
theorem AR.nref {h:DH} {d:DV} (hn:H4 d):AR h d d:=fun _ _ _ _ _ _ _ hr=>AK.out _ (Db (fun _ hb=>hb.elim) []) (hn _ _ _ _ hr)
theorem AR.ints {h:DH} {k n:Nat} {l:List Int} (hk:h[k]? =some (some (.ints l))) (hn:n=l.length):AR h (.msl k 1 0 n) (.ints l):=by
 rintro P Γ N ρ w v H ⟨p,cap,hp,e,g1,g2,_⟩;subst hn;obtain ⟨p',A2,hr⟩:=H.obj k _ hk;have ep:p'=p:=zCq (A2.symm.trans hp);subst ep;refine ⟨_,cap,e,g1,g2,fun j hj=>⟨p'.blk,p'.off,by simp,id,?_⟩⟩;obtain ⟨u,e1,e2⟩:=Ab.cell hr hj;rw [e1,e2]
theorem AR.bools {h:DH} {k n:Nat} {l:List Bool} (hk:h[k]? =some (some (.bools l))) (hn:n=l.length):AR h (.msl k 1 0 n) (.bools l):=by
 rintro P Γ N ρ w v H ⟨p,cap,hp,e,g1,g2,_⟩;subst hn;obtain ⟨p',A2,hr⟩:=H.obj k _ hk;have ep:p'=p:=zCq (A2.symm.trans hp);subst ep;refine ⟨_,cap,e,g1,g2,fun j hj=>⟨p'.blk,p'.off,by simp,id,?_⟩⟩;obtain ⟨u,e1,e2⟩:=Ab.cell hr hj;rw [e1,e2]
theorem AR.ref {h:DH} {k m:Nat} {l:List DV} {f:Nat -> DV} (hk:h[k]? =some (some (.cells l))) (hm:m<=l.length) (hf: ∀ j,j<m -> AR h (l.getD j .any) (f j)):AR h (.ref k 0) (.fp m f):=by
 rintro P Γ N ρ w v H ⟨p,hp,e⟩;obtain ⟨p',A2,hr⟩:=H.obj k _ hk;have ep:p'=p:=zCq (A2.symm.trans hp);subst ep;refine ⟨p'.blk,p'.off,e,fun j hj=>⟨id,?_⟩⟩;obtain ⟨u,e1,e2⟩:=Ab.cell hr (j:=j) (by omega);exact ⟨u,e1,hf j hj P Γ N ρ w u H e2⟩
theorem ES.snap {f:Nat} {ds D1:List DV} {d:DV} (h0:ES P Γ f D1 [] d [] true) (h:DH) (hl:D1.length=ds.length) (hs: ∀ i,i<ds.length -> AR h (ds.getD i .any) (D1.getD i .any)) (hd:Gk d):ES P Γ f ds h d h true:=by
 refine ⟨h0.1,fun N ρ w args HR Ce=>?_⟩;refine (h0.2 (fun _=>False) [] w args (Ot (fun b hb=>hb.elim) HR.gi) ⟨by rw [hl];exact Ce.1,fun i hi=>?_⟩).mono ?_
 ·rw [hl] at hi;exact AK.out _ (Db (fun b hb=>No.1 hb) []) (hs i hi P Γ N ρ w _ HR (Ce.2 i hi))
 ·rintro e w' ⟨v,rfl,⟨⟨ρ',g1,g2,g3,g4⟩,g5⟩⟩;have hE:=g5 rfl;exact ⟨v,rfl,⟨⟨ρ,HR.ext hE,hd _ _ _ _ _ _ _ g2,BH.ext hE,fun _ _ h=>h⟩,g5⟩⟩
end
end Go.Proofs.YtgkhhfnhacibcaaGreatDoor
namespace Go.Proofs.YtgkhhfnhacibcaaGreatDoor
open Go.RowKit
section
variable {F:Fence} {n:Nat} {P:Program} {ops:Array Oper} {Q:Exit -> Act -> World -> Prop}
def HQ (F:Fence) (n:Nat) (P:Program) (ops:Array Oper) (Q:Exit -> Act -> World -> Prop) (R:Nat -> World -> World -> Prop):Nat -> Array Bool -> Act -> World -> Prop
 | 0,AV,a,w=>(∀ j,j<ops.size -> AV.getD j true=true)/\ Q .normal a w
 | m+1,AV,a,w=>Region.ready .any ops AV≠[]/\ ∀ i∈Region.ready .any ops AV,wpOpIn F n P ops (NP Q) i (fun a' w'=>R i w w'/\ HQ F n P ops Q R m (AV.setIfInBounds i true) a' w') a w
theorem cR {R R':Nat -> World -> World -> Prop} (hR: ∀ i w w',R' i w w' -> R i w w'): ∀ (m:Nat) (AV:Array Bool) (a:Act) (w:World),HQ F n P ops Q R' m AV a w -> HQ F n P ops Q R m AV a w
 | 0,_,_,_,h=>h
 | m+1,_,_,_,h=>⟨h.1,fun i hi=>zEq (fun _ _ h'=>⟨hR _ _ _ h'.1,cR hR m _ _ _ h'.2⟩) (h.2 i hi)⟩
theorem ru {AV:Array Bool} (h: ∀ j,j<ops.size -> AV.getD j true=true):Region.ready .any ops AV= []:=by
 cases hr:Region.ready .any ops AV with
 | nil=>rfl
 | cons i l=>
  have hi:i∈Region.ready .any ops AV:=by rw [hr];simp
  obtain ⟨h1,oi,h2,_⟩:=zEw.1 hi;rw [h i (zCl.1 h2).1] at h1;cases h1
theorem cW {R:Nat -> World -> World -> Prop}: ∀ (m:Nat) (AV:Array Bool) (a:Act) (w:World),HQ F n P ops Q R m AV a w -> wpAnyIn F n P .any ops Q m AV a w
 | 0,_,_,_,h=>⟨ru h.1,h.2⟩
 | m+1,_,_,_,h=>⟨fun h0=>absurd h0 h.1,fun i hi=>zEq (fun a' w' h'=>cW m _ a' w' h'.2) (cT (h.2 i hi))⟩
theorem m8 (hF: ∀ f,F.fn f) (A5:EB ops=true) {R:Nat -> World -> World -> Prop} {T:World -> Prop} {i:Nat} {oi:Oper} {v:Value} (hi:ops[i]? =some oi) (Rq: ∀ (j:Nat) (o:Oper) cs b,ops[j]? =some o -> o.op≠.select cs b) (j0: ∀ w,R i w w):
 ∀ (m:Nat) (AV:Array Bool) (a:Act) (w:World),F4 ops AV ->
  (∀ j oj,ops[j]? =some oj -> j≠i -> AV.getD j true=false -> (∀ e∈oj.after,Region.binds .any e=true -> e.on≠i) -> oi.apart ops oj=true) ->
  (∀ j,j<ops.size -> j≠i -> AV.getD j true=false -> F7 ops ops.size j i=false -> ∀ w w',T w -> R j w w' -> T w') ->
  i∈Region.ready .any ops AV -> YieldsIf P ops T oi v a -> T w ->
  HQ F n P ops Q R m (AV.setIfInBounds i true) (a.put oi.dst v) w -> HQ F n P ops Q R (m+1) AV a w:=by
 intro m
 induction m with
 | zero=>
  intro AV a w BQ _ _ hr hy hS H;have ND:=(zEw.1 hr).1;refine ⟨fun h=>(by rw [h] at hr;cases hr),fun j hj=>?_⟩
  by_cases Ek:j=i
  ·subst Ek;exact TR hF (IS A5 hi) hi hy hS ⟨j0 w,H⟩
  ·exfalso
   obtain ⟨JN,oj,Fw,Hs⟩:=zEw.1 hj;have O0:=(zCl.1 Fw).1;have:=H.1 j O0;rw [getD_set_ne true (zEy Ek),JN] at this;cases this
 | succ m ih=>
  intro AV a w BQ R7 hT hr hy hS H;have ND:=(zEw.1 hr).1;refine ⟨fun h=>(by rw [h] at hr;cases hr),fun j hj=>?_⟩
  by_cases Ek:j=i
  ·subst Ek;exact TR hF (IS A5 hi) hi hy hS ⟨j0 w,H⟩
  ·have h1:=H.2 j (ready_mono hj Ek);obtain ⟨JN,oj,Fw,Hs⟩:=zEw.1 hj;have O0:=(zCl.1 Fw).1
   have yK:F7 ops ops.size j i=false:=by
    cases hx:F7 ops ops.size j i with
    | false=>rfl
    | true=>
     have:=XH BQ _ j i oj Fw Hs hx;rw [V3 ND] at this;cases this
   have Z5: ∀ e∈oj.after,Region.binds .any e=true -> e.on≠i:=fun e he hb O3=>by
    have h1:=Hs e he hb;rw [O3,V3 ND] at h1;cases h1
   have h2:=cS hF (IS A5 Fw) Fw (R7 j oj Fw Ek JN Z5) (fun cs b=>Rq i oi cs b hi) (fun cs b=>Rq j oj cs b Fw) (fun c a w h=>NP.put c a _ _ w h) hy h1
   have un: ∀ {k:Nat},(AV.setIfInBounds j true).getD k true=false -> AV.getD k true=false:=fun {k} IY=>by
    by_cases R5:j=k
    ·subst R5;exact JN
    ·rw [getD_set_ne true R5] at IY;exact IY
   refine zEq (fun a' w' h3=>⟨h3.2.1,ih (AV.setIfInBounds j true) a' w' (BQ.set hj) (fun k ok hk Ry IY KG=>R7 k ok hk Ry (un IY) KG) (fun k EG Ry IY yZ=>hT k EG Ry (un IY) yZ) (ready_mono hr (zEy Ek)) h3.1 (hT j O0 Ek JN yK w w' hS h3.2.1) ?_⟩) h2;rw [Array.setIfInBounds_comm _ _ Ek];exact h3.2.2
theorem nB {id:Nat} {a:Act} {w:World} {R:Nat -> World -> World -> Prop} (hm:P.follows .mixedOrders=true) (h:HQ F n P ops Q R ops.size (Array.replicate ops.size false) a w.drew):(Code.region id ops true).wpIn F n P Q a w:=
 wpIn_region_any hm (cW _ _ _ _ h)
theorem zBd:F4 ops (Array.replicate ops.size false):=fun j oj _ hl=>by
 exfalso
 rcases zD3 j ops.size with h | h
 ·simp [h] at hl
 ·simp [h] at hl
def Q2 (ops:Array Oper) (i:Nat):Bool:=match ops[i]? with
 | some o=>Q0 o.op
 | none=>false
def RZ (ops:Array Oper) (early:Nat -> Bool) (Z:Nat -> Nat -> Prop) (j:Nat) (w w':World):Prop:=(Q2 ops j=true -> w'=w)/\ (early j=true -> AO (Z j) w w')
def UN (ops:Array Oper) (early:Nat -> Bool) (i:Nat) (AV:Array Bool):Bool:=
 (Region.ready .any ops AV).contains i&&Region.free .any ops AV i&&Q2 ops i&&
  ((List.range ops.size).all fun j=>AV.getD j true||j==i||Q2 ops j||early j||F7 ops ops.size j i)
theorem fV (hF: ∀ f,F.fn f) (A5:EB ops=true) (hs:Region.noSelect ops=true) {early:Nat -> Bool} {Z:Nat -> Nat -> Prop} {Zi:Nat -> Prop} {i m:Nat} {AV:Array Bool} {a:Act} {w:World} {oi:Oper} {v:Value} (hi:ops[i]? =some oi) (BQ:F4 ops AV) (CL:UN ops early i AV=true) (hZ: ∀ j,F7 ops ops.size j i=false -> ∀ b,Z j b -> Zi b)
 (hy:YieldsIf P ops (AO Zi w) oi v a) (h:HQ F n P ops Q (RZ ops early Z) m (AV.setIfInBounds i true) (a.put oi.dst v) w):HQ F n P ops Q (RZ ops early Z) (m+1) AV a w:=by
 simp only [UN,zCp,zCs,zCy,zC7,zDB] at CL;obtain ⟨⟨⟨h1,h2⟩,h3⟩,h4⟩:=CL;refine m8 hF A5 hi (Region.noSelect_spec hs) (fun w=>⟨fun _=>rfl,fun _=>AO.refl _ _⟩) m AV a w BQ (Region.free_spec hi h2) (fun j hj Ek IY hw w1 w2 hT hR=>?_) (by simpa using h1) hy (AO.refl _ _) h;rcases h4 j hj with (((h | h) | h) | h) | h
 ·rw [IY] at h;cases h
 ·exact absurd h Ek
 ·rw [hR.1 h];exact hT
 ·exact hT.trans ((hR.2 h).mono fun b _ hb=>hZ j hw b hb)
 ·rw [hw] at h;cases h
theorem bM {AV:Array Bool} {i:Nat} (BQ:F4 ops AV) (h:(Region.ready .any ops AV).contains i=true):F4 ops (AV.setIfInBounds i true):=BQ.set (by simpa using h)
end
end Go.Proofs.YtgkhhfnhacibcaaGreatDoor
namespace Go.Proofs.YtgkhhfnhacibcaaGreatDoor
abbrev zEG:=@List.mem_filter
end Go.Proofs.YtgkhhfnhacibcaaGreatDoor
namespace Go.Proofs.YtgkhhfnhacibcaaGreatDoor
open Go.RowKit
inductive ST where
 | fin (π live:List Nat)
 | rd (i:Nat) (t:ST)
 | ef (i:Nat) (t HI:ST)
 | no
def TI:ST -> List Nat
 | .ef i _ HI=>i::TI HI
 | _=>[]
def D8 (ops:Array Oper) (early:List Nat):Bool -> Nat -> ST -> Array Bool -> Bool
 | false,0,.fin _ _,L=>(List.range ops.size).all fun j=>L.getD j true
 | false,m+1,.rd i t,L=>UN ops (fun j=>early.contains j) i L&&D8 ops early false m t (L.setIfInBounds i true)
 | b,m+1,.ef i t HI,L=>(b||Region.ready .any ops L==TI (.ef i .no HI))&&!Q2 ops i&&D8 ops early false m t (L.setIfInBounds i true)&&D8 ops early true (m+1) HI L
 | true,_,.no,_=>true
 | _,_,_,_=>false
def HZ (p:Nat -> Bool) (h:DH):DH:=(List.range h.length).map fun i=>if p i then h.getD i none else none
def u5 (xs:List Nat) (h:DH):DH:=HZ (fun i=>!xs.contains i) h
def W0 (xs:List Nat) (h:DH):Bool:=xs.all fun k=>decide (h.length<=k)||(h.getD k none).isSome
def Kr (S:St) (o:Oper):Option Nat:=match o.op with
 | .store _ x _=>match Aa S.fr x with
  | .ref k _=>some k
  | .mp k _ _ _=>some k
  | _=>none
 | _=>none
def eB (σ:List Nat) (L n:Nat):Bool:=decide σ.Nodup&&σ.all (fun k=>decide (k<n))&&(List.range L).all fun k=>decide (σ[k]? =some k)
def Pq (xs:List (Nat×Nat)) (nw:List Nat):List Nat:=xs.map (·.2)++nw
def Iy (xs:List (Nat×Nat)) (nw:List Nat) (j:Nat):List Nat:=(xs.filter fun q=>q.1==j).map (·.2)++nw
def Jb (ops:Array Oper) (xs:List (Nat×Nat)) (nw:List Nat) (i:Nat):List Nat:=(xs.filter fun q=>!F7 ops ops.size q.1 i).map (·.2)++nw
def kq (early:List Nat) (xs:List (Nat×Nat)) (nw:List Nat) (S S1:St) (i:Nat) (o:Oper) (ext:Bool):Bool:=
 W0 (Pq xs nw) S.h&&W0 (Pq xs nw) S1.h&&((Pq xs nw).all (fun k=>decide (k<S.h.length))||RT S.h S1.h)&&(!(early.contains i)||ext||(match Kr S o with | some k=>(Iy xs nw i).contains k | none=>false))
def Tp (π:List Nat) (L0:Nat):List Nat:=List.range L0++π.map (· +L0)
def Kp (P:Program) (Γ:A1) (ops:Array Oper) (early:List Nat) (xs:List (Nat×Nat)) (nw:List Nat) (L0:Nat) (S':St):ST -> St -> Bz -> Option (List Prop×Bz)
 | .no,_,Aq=>some ([],Aq)
 | .fin π live,S,Aq=>if eB (Tp π L0) L0 S.h.length then some ([Fg (Tp π L0) ⟨forget live S.fr,S.h⟩=S'],Aq) else none
 | .rd i t,S,Aq=>match ops[i]? with
  | none=>none
  | some o=>if W0 (Jb ops xs nw i) S.h then match Qo P ops ⟨S.fr,u5 (Jb ops xs nw i) S.h⟩ Aq.co o with
   | none=>none
   | some (S1,vs,DG)=>match Kp P Γ ops early xs nw L0 S' t ⟨S1.fr,S.h⟩ ⟨Aq.calls,DG,Aq.fz,Aq.tg⟩ with
    | none=>none
    | some (BY,CO)=>some (vs++BY,CO)
   else none
 | .ef i t HI,S,Aq=>match ops[i]? with
  | none=>none
  | some o=>match Ng P Γ ops S Aq o with
   | none=>none
   | some (S1,vs,ext,Me)=>if kq early xs nw S S1 i o ext then
    match Kp P Γ ops early xs nw L0 S' t S1 Me with
    | none=>none
    | some (Cw,G3)=>match Kp P Γ ops early xs nw L0 S' HI S G3 with
     | none=>none
     | some (FS,J3)=>some (vs++(Cw++FS),J3)
    else none
def CQ (ops:Array Oper) (early:List Nat) (t:ST):Prop:=(D8 ops early false ops.size t (Array.replicate ops.size false)&&Region.noSelect ops&&EB ops)=true
def XR (P:Program) (Γ:A1) (ops:Array Oper) (early:List Nat) (t:ST) (S:St) (Aq:Bz):Option (St×List Prop×Bz):=match Aq.tg with
 | []=>none
 | (ks,S')::rest=>match Kp P Γ ops early ks (List.range' S.h.length ops.size) S.h.length S' t S ⟨Aq.calls,Aq.co,Aq.fz,rest⟩ with
  | none=>none
  | some (vs,CO)=>some (S',vs,CO)
theorem PD {p:Nat -> Bool} {h:DH} {i:Nat} {o:DO} (hi:(HZ p h)[i]? =some (some o)):h[i]? =some (some o)/\ p i=true:=by
 unfold HZ at hi;rw [zC1] at hi;cases hr:(List.range h.length)[i]? with
 | none=>rw [hr] at hi;cases hi
 | some j=>
  have hj:i<h.length/\ i=j:=by
   have:=zCr.1 hr;obtain ⟨h1,h2⟩:=this;simp at h1 h2;exact ⟨h1,h2⟩
  rw [hr] at hi;obtain ⟨h1,rfl⟩:=hj;have hi:(if p i then h.getD i none else none)=some o:=zCq hi;split at hi
  ·exact ⟨by rw [u8,zAe h1] at hi;rw [zAe h1];exact congrArg some hi,by assumption⟩
  ·cases hi
theorem pE {p:Nat -> Bool} {h:DH}:(HZ p h).length=h.length:=by simp [HZ]
theorem kD {p:Nat -> Bool} {h:DH} {k:Nat} (hp:p k=true) (hk:k<h.length):(HZ p h)[k]? =h[k]? :=by
 unfold HZ;rw [zC1,zEO hk];simp [hp,u8,hk]
section
variable {P:Program} {Γ:A1} {N:Nat -> Prop} {S:St} {ρ:List AJ} {a:Act} {w:World}
theorem Ac.sel (R:Ac P Γ N S ρ a w) (p:Nat -> Bool):Ac P Γ (fun b=>N b∨∃ k o q,p k=false/\ S.h[k]? =some (some o)/\ ρ[k]? =some q/\ q.foot b) ⟨S.fr,HZ p S.h⟩ ρ a w:=by
 have hM: ∀ b,MS (fun b=>N b∨∃ k o q,p k=false/\ S.h[k]? =some (some o)/\ ρ[k]? =some q/\ q.foot b) (HZ p S.h) ρ b -> MS N S.h ρ b:=by
  rintro b ((h | ⟨k,o,q,h1,h2,h3,h4⟩) | ⟨k,o,q,h1,h2,h3⟩)
  ·exact .inl h
  ·exact .inr ⟨k,o,q,h2,h3,h4⟩
  ·exact .inr ⟨k,o,q,(PD h1).1,h2,h3⟩
 refine ⟨⟨by rw [pE];exact R.hr.len,fun i o hi=>?_,fun i o q b g1 g2 g3=>?_,fun i i' o1 o2 p1 p2 b AY g1 g2 g3 g4 g5 g6=>R.hr.dis i i' o1 o2 p1 p2 b AY (PD g1).1 (PD g2).1 g3 g4 g5 g6,?_,R.hr.gi⟩,R.fr.out (Db hM ρ)⟩
 ·obtain ⟨q,hq,hr⟩:=R.hr.obj i o (PD hi).1;exact ⟨q,hq,hr.out (Db hM ρ) (S:=fun _=>False) (AO.refl _ _) (fun _ h=>h.elim) fun _ _ _ h=>h⟩
 ·obtain ⟨hi,w5⟩:=PD g1;obtain ⟨c1,c2,c3⟩:=R.hr.cel i o q b hi g2 g3;refine ⟨c1,?_,c3⟩;rintro (h | ⟨k,o',q',h1,h2,h3,h4⟩)
  ·exact c2 h
  ·exact R.hr.dis i k o o' q q' b (fun e=>by subst e;rw [w5] at h1;cases h1) hi h2 g2 h3 g3 h4
 ·rintro b (h | ⟨k,o',q',h1,h2,h3,h4⟩)
  ·exact R.hr.nlt b h
  ·obtain ⟨c1,_,c,t,z,c3⟩:=R.hr.cel k o' q' b h2 h3 h4;exact ⟨(zCl.1 c3).1,c1⟩
theorem Ac.unsel {p:Nat -> Bool} {fr:List DV} (R0:BP P Γ N S.h ρ w) (R:CA (MS (fun b=>N b∨∃ k o q,p k=false/\ S.h[k]? =some (some o)/\ ρ[k]? =some q/\ q.foot b) (HZ p S.h) ρ) w ρ fr a.tmps):Ac P Γ N ⟨fr,S.h⟩ ρ a w:=by
 refine ⟨R0,R.out (Db (fun b hb=>?_) ρ)⟩;rcases hb with h | ⟨k,o,q,h1,h2,h3⟩
 ·exact .inl (.inl h)
 ·cases hp:p k with
  | false=>exact .inl (.inr ⟨k,o,q,hp,h1,h2,h3⟩)
  | true=>
   refine .inr ⟨k,o,q,?_,h2,h3⟩;rw [kD hp (zCr.1 h1).1];exact h1
def Zs (xs:List Nat) (ρ:List AJ) (w:World) (b:Nat):Prop:=(∃ k q,k∈xs/\ ρ[k]? =some q/\ q.foot b)∨w.heap.size<=b
theorem vC {xs:List Nat} (R:BP P Γ N S.h ρ w) (NK:W0 xs S.h=true) {W:World} (hu:AO (Zs xs ρ w) w W):Keep (fun b=>N b∨∃ k o q,(!xs.contains k)=false/\ S.h[k]? =some (some o)/\ ρ[k]? =some q/\ q.foot b) w W:=by
 intro b o u hb hc;have AL:b<w.heap.size:=zD4 w ⟨b,o,none⟩ hc;refine (lU (hu.block b AL ?_)).trans hc;rintro (⟨k,q,h1,h2,h3⟩ | h)
 ·have hk:k<S.h.length:=by rw [←R.len];exact (zCr.1 h2).1
  have hx:=zCs.1 NK k h1;simp only [zC7,zDH] at hx;rcases hx with hx | hx
  ·omega
  ·cases hg:S.h.getD k none with
   | none=>rw [hg] at hx;cases hx
   | some ob=>exact hb (.inr ⟨k,ob,q,by simp [h1],getD_some hg,h2,h3⟩)
 ·omega
theorem PN {ρ':Operand -> Value} {o:Oper} {t:TypeId} {x y:Operand} (ho:o.op= .store t x y) {nx:Next} {w w':World} (h:(execOp ρ' o).run P w= .ok nx w'):nx= .skip:=by
 unfold execOp at h;rw [ho] at h;have h:(Instr.storeAt t (ρ' x) (ρ' y)>>=fun _=>(pure .skip:Sem Next)).run P w= .ok nx w':=h;rw [zC3] at h;cases hs:(Instr.storeAt t (ρ' x) (ρ' y)).run P w with
 | ok v w1=>rw [hs] at h;simp only [Result.andThen] at h;cases h;rfl
 | halt x w1=>rw [hs] at h;simp only [Result.andThen] at h;cases h
theorem BM.store {ρ':Operand -> Value} {o:Oper} {t:TypeId} {x y:Operand} (ho:o.op= .store t x y) {w:World} {G G':Value -> World -> Prop} (h:BM P (execOp ρ' o) w G) (h':BM P (execOp ρ' o) w G'):BM P (execOp ρ' o) w (fun v W=>G v W/\ G' v W):=by
 rcases h with ⟨v,w1,h1,_⟩ | ⟨w1,h1,h2⟩ | ⟨f,ag,w1,h1,_⟩
 ·cases PN ho h1
 ·rcases h' with ⟨v,w2,g1,_⟩ | ⟨w2,g1,g2⟩ | ⟨f,ag,w2,g1,_⟩
  ·cases PN ho g1
  ·rw [h1] at g1;cases g1;exact .inr (.inl ⟨w1,h1,h2,g2⟩)
  ·cases PN ho g1
 ·cases PN ho h1
theorem oM {t:TypeId} {x d:DV} {k:Nat} {h':DH} {vc:Prop} (hx:(∃ j,x= .ref k j)∨∃ m i j,x= .mp k m i j) (h:MA P S t x d=some (h',vc)):k<S.h.length/\ ∃ h2,MA P ⟨S.fr,HZ (fun i=>i==k) S.h⟩ t x d=some (h2,vc):=by
 have key: ∀ {o:DO},S.h[k]? =some (some o) -> k<S.h.length/\ (HZ (fun i=>i==k) S.h)[k]? =some (some o):=fun {o} ho=>by
  have hk:=(zCr.1 ho).1;exact ⟨hk,by rw [kD (by simp) hk];exact ho⟩
 unfold MA at h ⊢;rcases hx with ⟨j,rfl⟩ | ⟨m,i,j,rfl⟩
 ·simp only at h ⊢;split at h
  ·rename_i l hl;obtain ⟨h1,h2⟩:=key hl;refine ⟨h1,?_⟩;simp only [h2]
   repeat' (split at h)
   all_goals first | (cases h;done) | skip
   cases h;rename_i q1 q2 q3;simp only [q1,q2,q3,zDj];exact ⟨_,rfl⟩
  ·cases h
 ·simp only at h ⊢;split at h
  ·rename_i Az;split at h
   ·rename_i l hl;obtain ⟨h1,h2⟩:=key hl;refine ⟨h1,?_⟩;simp only [h2,Az,zDj]
    repeat' (split at h)
    all_goals first | (cases h;done) | skip
    cases h;rename_i q1;simp only [q1,zDj];exact ⟨_,rfl⟩
   ·rename_i l hl;obtain ⟨h1,h2⟩:=key hl;refine ⟨h1,?_⟩;simp only [h2,Az,zDj]
    repeat' (split at h)
    all_goals first | (cases h;done) | skip
    cases h;rename_i q1;simp only [q1,zDj];exact ⟨_,rfl⟩
   ·rename_i m' n f hl;obtain ⟨h1,h2⟩:=key hl;refine ⟨h1,?_⟩;simp only [h2,Az,zDj]
    repeat' (split at h)
    all_goals first | (cases h;done) | skip
    cases h;rename_i q1;simp only [q1,zDj];exact ⟨_,rfl⟩
   ·cases h
  ·cases h
theorem XY {o:Oper} {k:Nat} (h:Kr S o=some k): ∃ t x y,o.op= .store t x y/\ ((∃ j,Aa S.fr x= .ref k j)∨∃ m i j,Aa S.fr x= .mp k m i j):=by
 unfold Kr at h;split at h
 ·rename_i t x y ho;refine ⟨t,x,y,ho,?_⟩;split at h
  ·rename_i j e;cases h;exact .inl ⟨j,e⟩
  ·rename_i m i j e;cases h;exact .inr ⟨m,i,j,e⟩
  ·cases h
 ·cases h
theorem zCg {calls:List (DV×DH×Bool)} {o:Oper} {t:TypeId} {x y:Operand} (ho:o.op= .store t x y) {d:DV} {h':DH} {vs:List Prop} {ext:Bool} {Ss:List (DV×DH×Bool)} (h:Pj P Γ S calls o.op=some (d,h',vs,ext,Ss)): ∃ vc,MA P S t (Aa S.fr x) (Aa S.fr y)=some (h',vc)/\ vs= [vc]:=by
 rw [ho] at h;simp only [Pj] at h;split at h
 ·rename_i h1 vc hs;cases h;exact ⟨vc,hs,rfl⟩
 ·cases h
theorem zCh (R:Ac P Γ N S ρ a w) {calls:List (DV×DH×Bool)} {o:Oper} {d:DV} {h':DH} {vs:List Prop} {ext:Bool} {Ss:List (DV×DH×Bool)} (h:Pj P Γ S calls o.op=some (d,h',vs,ext,Ss)) (hv:Bm vs):
 BM P (execOp a.eval o) w (fun v w'=>DJ P Γ N S.h ρ w ext d h' v w'/\ ∀ k,Kr S o=some k -> AO (fun b=>∃ q,ρ[k]? =some q/\ q.foot b) w w'):=by
 cases EY:Kr S o with
 | none=>
  have D:=cA R h hv;rcases D with ⟨v,w1,h1,h2⟩ | ⟨w1,h1,h2⟩ | ⟨f,ag,w1,h1,h2⟩
  ·exact .inl ⟨v,w1,h1,h2,fun k hk=>by cases hk⟩
  ·exact .inr (.inl ⟨w1,h1,h2,fun k hk=>by cases hk⟩)
  ·exact .inr (.inr ⟨f,ag,w1,h1,h2.mono fun e CF ⟨v,e1,e2⟩=>⟨v,e1,e2,fun k hk=>by cases hk⟩⟩)
 | some k=>
  obtain ⟨t,x,y,ho,hx⟩:=XY EY;have D:=cA R h hv;obtain ⟨vc,hs,rfl⟩:=zCg ho h;obtain ⟨_,h2,Ho⟩:=oM hx hs;have D2:=dl (Ac.sel R (fun i=>i==k)) (tx:=x) (x:=y) Ho hv.1 o ho;have D3:=BM.store ho D D2;rcases D3 with ⟨v,w1,h1,g1,g2⟩ | ⟨w1,h1,g1,g2⟩ | ⟨f,ag,w1,h1,_⟩
  ·cases PN ho h1
  ·refine .inr (.inl ⟨w1,h1,g1,fun k' Cv=>?_⟩);cases Cv;obtain ⟨ρ2,_,_,st,_⟩:=g2.ex;refine st.upd.mono fun b _ hb=>?_
   obtain ⟨i,o',q,q1,q2,q3⟩:=hb;have:=(PD q1).2;have e:i=k:=by simpa using this
   subst e;exact ⟨q,q2,q3⟩
  ·cases PN ho h1
theorem zCD {F:Fence} (hF:D4 F P) (R:Ac P Γ N S ρ a w) {ops:Array Oper} {Aq:Bz} {o:Oper} (hd: ∀ c,o.op≠.defer c) {S':St} {vs:List Prop} {ext:Bool} {CO:Bz} (h:Ng P Γ ops S Aq o=some (S',vs,ext,CO)) (hv:Bm vs)
 {K:Act -> World -> Prop} {Q:Exit -> Act -> World -> Prop} (hK: ∀ ρ' a' w',Ac P Γ N S' ρ' a' w' -> C5 S.h ρ w S'.h ρ' w' -> a'.defers=a.defers -> (ext=true -> Ar w w') -> (∀ k,Kr S o=some k -> AO (fun b=>∃ q,ρ[k]? =some q/\ q.foot b) w w') -> K a' w'):
 if Region.wanted o (yielded ops a.tmps) then o.wpIn F 0 P a w K Q else (∀ f,o.about P w a.eval=some f -> F.fn f)/\ K (a.put o.dst undef) w:=by
 have DD: ∀ v,(a.put o.dst v).defers=a.defers:=fun v=>by cases ho:o.dst <;> simp [Act.put]
 unfold Ng at h;split at h
 ·cases h
 ·rename_i hw;cases h;rw [zCt (by rw [Jf R hw];exact zET)];exact ⟨fun f _=>hF.fn f,hK ρ _ _ (IF R _ TZ) (C5.refl _ _ _) (DD _) (fun _=>Ar.refl w) fun _ _=>AO.refl _ _⟩
 ·rename_i hw;rw [zB3 (Jf R hw)];split at h
  ·rename_i S1 Cw zt hM;cases h;refine KV hF hd (eS R hM hv) fun v w' ⟨⟨ρ',g1,g2⟩,EY⟩=>hK ρ' _ _ g1 g2 (DD v) (fun e=>by cases e) fun k' Cv=>?_
   obtain ⟨t0,x0,y0,IZ,_⟩:=XY Cv;rcases EY with EY | ⟨k,i,p,t,x,y,q1,q2,q3,q4⟩
   ·exact absurd IZ (EY t0 x0 y0)
   have e:k'=k:=by
    unfold Kr at Cv;rw [q1] at Cv;simp only [q2] at Cv;exact (zCq Cv).symm
   subst e;exact q4.mono fun b _ hb=>⟨p,q3,hb⟩
  split at h
  ·rename_i S1 Cw hM;cases h;refine KV hF hd (dk R hM hv) fun v w' ⟨⟨ρ',g1,g2⟩,EY⟩=>hK ρ' _ _ g1 g2 (DD v) (fun e=>by cases e) fun k' Cv=>?_
   obtain ⟨t0,x0,y0,IZ,_⟩:=XY Cv;rcases EY with EY | ⟨k,i,p,t,x,y,q1,q2,q3,q4⟩
   ·exact absurd IZ (EY t0 x0 y0)
   have e:k'=k:=by
    unfold Kr at Cv;rw [q1] at Cv;simp only [q2] at Cv;exact (zCq Cv).symm
   subst e;exact q4.mono fun b _ hb=>⟨p,q3,hb⟩
  split at h
  ·cases h
  ·rename_i d h1 Cw ext1 calls aW;split at h;rename_i d' BY DG NI;split at h
   ·cases h
   ·rename_i S2 Ns JX Gc;cases h;obtain ⟨BZ,Ro⟩:=Cz.1 hv;obtain ⟨CG,IX⟩:=Cz.1 Ro;refine KV hF hd (zCh R aW BZ) fun v w' G=>?_
    obtain ⟨ρ',g1,g2⟩:=NO R o.dst G.1 (d':=d') fun M ρ' hr=>Wj NI CG hr
    obtain ⟨g3,g4⟩:=V6 _ Gc IX P Γ N ρ' _ _ g1;exact hK ρ' _ _ g3 (g2.trans ⟨g4,fun _ _ h=>h⟩) (DD v) G.1.ext G.2
theorem nl {F:Fence} (hF:D4 F P) {ops:Array Oper} (A5:EB ops=true) (hs:Region.noSelect ops=true) {early:List Nat} {xs:List (Nat×Nat)} {nw:List Nat} {L0:Nat} {S':St} {Q:Exit -> Act -> World -> Prop}:
 ∀ (t:ST) (m:Nat) (L:Array Bool) {S:St} {ρ:List AJ} {a:Act} {w:World} {vs:List Prop} {Aq CO:Bz},F4 ops L -> Ac P Γ N S ρ a w -> Kp P Γ ops early xs nw L0 S' t S Aq=some (vs,CO) -> Bm vs ->
 (∀ ρ' a' w',Ac P Γ N S' ρ' a' w' -> BH S.h ρ w S'.h ρ' w' -> (∀ k p,k<L0 -> ρ[k]? =some p -> ρ'[k]? =some p) -> a'.defers=a.defers -> Q .normal a' w') ->
 (D8 ops early false m t L=true -> HQ F 0 P ops Q (RZ ops (fun j=>early.contains j) (fun j=>Zs (Iy xs nw j) ρ w)) m L a w)/\
 (D8 ops early true m t L=true -> ∀ i∈TI t,i∈Region.ready .any ops L -> ∃ m',m=m'+1/\ wpOpIn F 0 P ops (NP Q) i (fun a' w'=>RZ ops (fun j=>early.contains j) (fun j=>Zs (Iy xs nw j) ρ w) i w w'/\ HQ F 0 P ops Q (RZ ops (fun j=>early.contains j) (fun j=>Zs (Iy xs nw j) ρ w)) m' (L.setIfInBounds i true) a' w') a w):=by
 intro t
 induction t with
 | no=>
  intro m L S ρ a w vs Aq YV BQ R hV hv hQ;exact ⟨fun h=>by cases m <;> simp [D8] at h,fun _ i hi=>by cases hi⟩
 | fin π live=>
  intro m L S ρ a w vs Aq YV BQ R hV hv hQ;refine ⟨fun h=>?_,fun h=>by cases m <;> simp [D8] at h⟩;cases m with
  | succ m=>simp [D8] at h
  | zero=>
   simp only [D8,zCs,zCy] at h;refine ⟨h,?_⟩;simp only [Kp] at hV;split at hV
   ·rename_i hσ;cases hV;simp only [eB,zCp,zDH,zCs,zCy] at hσ;obtain ⟨ρ0,R0,oN,k0⟩:=BO.forget (L:=L0) live S.fr S.h P Γ N ρ a w R;obtain ⟨ρ',R',Dk,k'⟩:=BO.compact (L:=L0) (Tp π L0) ⟨forget live S.fr,S.h⟩ hσ.1.1 (fun k hk=>hσ.1.2 k hk) (fun k hk=>hσ.2 k hk) P Γ N ρ0 a w R0;have st:=oN.trans Dk;have e:Fg (Tp π L0) ⟨forget live S.fr,S.h⟩=S':=hv.1;rw [e] at R' st Dk;exact hQ ρ' a w R' st (fun k p hk hp=>k' k p hk (k0 k p hk hp)) rfl
   ·cases hV
 | rd i t ih=>
  intro m L S ρ a w vs Aq YV BQ R hV hv hQ;refine ⟨fun h=>?_,fun h=>by cases m <;> simp [D8] at h⟩;cases m with
  | zero=>simp [D8] at h
  | succ m=>
   simp only [D8,zCp] at h;simp only [Kp] at hV;split at hV
   ·cases hV
   ·rename_i o ho;split at hV
    ·rename_i NK;split at hV
     ·cases hV
     ·rename_i S1 Cw Sr hp;split at hV
      ·cases hV
      ·rename_i FS G3 h2;cases hV;obtain ⟨BZ,CG⟩:=Cz.1 hv;have RK:=Ac.sel R (fun k=>!(Jb ops xs nw i).contains k);obtain ⟨e1,EY⟩:=UU RK hp BZ;have DD: ∀ v,(a.put o.dst v).defers=a.defers:=fun v=>by cases ho:o.dst <;> simp [Act.put]
       have Ou:(Region.ready .any ops L).contains i=true:=by
        have:=h.1;simp only [UN,zCp] at this;exact this.1.1.1
       have back: ∀ v,CA (MS (fun b=>N b∨∃ k o q,(!(Jb ops xs nw i).contains k)=false/\ S.h[k]? =some (some o)/\ ρ[k]? =some q/\ q.foot b) S1.h ρ) w ρ S1.fr (a.put o.dst v).tmps -> Ac P Γ N ⟨S1.fr,S.h⟩ ρ (a.put o.dst v) w:=fun v hr=>by
        rw [e1] at hr;exact Ac.unsel (p:=fun k=>!(Jb ops xs nw i).contains k) R.hr hr
       have hZ: ∀ j,F7 ops ops.size j i=false -> ∀ b,Zs (Iy xs nw j) ρ w b -> Zs (Jb ops xs nw i) ρ w b:=by
        rintro j hj b (⟨k,q,k1,k2,k3⟩ | hb)
        ·refine .inl ⟨k,q,?_,k2,k3⟩;unfold Iy at k1;unfold Jb;rcases zC9.1 k1 with k1 | k1
         ·obtain ⟨p,p1,p2⟩:=zDr.1 k1;obtain ⟨p3,p4⟩:=zEG.1 p1;have:p.1=j:=by simpa using p4
          exact zC9.2 (.inl (zDr.2 ⟨p,zEG.2 ⟨p3,by rw [this,hj];rfl⟩,p2⟩))
         ·exact zC9.2 (.inr k1)
        ·exact .inr hb
       rcases EY with ⟨hw,v,g1,g2⟩ | ⟨hw,g2⟩
       ·refine fV (Zi:=Zs (Jb ops xs nw i) ρ w) hF.fn A5 hs ho BQ h.1 hZ (.inl ⟨hw,fun W hu=>g1 W (vC R.hr NK hu)⟩) ?_;exact (ih m _ (bM BQ Ou) (back v g2.fr) h2 CG fun ρ' a' w' q1 q2 q3 q4=>hQ ρ' a' w' q1 q2 q3 (q4.trans (DD v))).1 h.2
       ·refine fV (Zi:=Zs (Jb ops xs nw i) ρ w) hF.fn A5 hs (v:=undef) ho BQ h.1 hZ (.inr ⟨hw,rfl⟩) ?_;exact (ih m _ (bM BQ Ou) (back undef g2.fr) h2 CG fun ρ' a' w' q1 q2 q3 q4=>hQ ρ' a' w' q1 q2 q3 (q4.trans (DD undef))).1 h.2
    ·cases hV
 | ef i t HI v6 vz=>
  intro m L S ρ a w vs Aq YV BQ R hV hv hQ;simp only [Kp] at hV;split at hV
  ·cases hV
  ·rename_i o ho;split at hV
   ·cases hV
   ·rename_i S1 Cw ext Me h1;split at hV
    ·rename_i Vt;simp only [kq,zCp,zC7] at Vt;obtain ⟨⟨⟨NK,zO⟩,ya⟩,yu⟩:=Vt;split at hV
     ·cases hV
     rename_i FS G3 h2;split at hV
     ·cases hV
     ·rename_i L7 J3 h3;cases hV;obtain ⟨BZ,Cu⟩:=Cz.1 hv;obtain ⟨CG,IX⟩:=Cz.1 Cu;have A:=vz m L BQ R h3 IX hQ
      have sub: ∀ {j k:Nat},k∈Iy xs nw j -> k∈Pq xs nw:=fun {j k} hk=>by
       unfold Iy at hk;unfold Pq;rcases zC9.1 hk with hk | hk
       ·obtain ⟨p,p1,p2⟩:=zDr.1 hk;exact zC9.2 (.inl (zDr.2 ⟨p,(zEG.1 p1).1,p2⟩))
       ·exact zC9.2 (.inr hk)
      have one: ∀ b,D8 ops early b m (.ef i t HI) L=true -> (Region.ready .any ops L).contains i=true -> ∃ m',m=m'+1/\ D8 ops early true m HI L=true/\ wpOpIn F 0 P ops (NP Q) i (fun a' w'=>RZ ops (fun j=>early.contains j) (fun j=>Zs (Iy xs nw j) ρ w) i w w'/\ HQ F 0 P ops Q (RZ ops (fun j=>early.contains j) (fun j=>Zs (Iy xs nw j) ρ w)) m' (L.setIfInBounds i true) a' w') a w:=by
       intro b hb hr;cases m with
       | zero=>cases b <;> simp [D8] at hb
       | succ m=>
        have C4:(!Q2 ops i)=true/\ D8 ops early false m t (L.setIfInBounds i true)=true/\ D8 ops early true (m+1) HI L=true:=by
         cases b <;> simp only [D8,zCp] at hb <;> exact ⟨hb.1.1.2,hb.1.2,hb.2⟩
        obtain ⟨b1,b2,b3⟩:=C4;refine ⟨m,rfl,b3,?_⟩;unfold wpOpIn;simp only [ho];refine zCD hF R (IS A5 ho) h1 BZ fun ρ' a' w' R' st Dy JR wZ=>?_
        refine ⟨⟨fun hp=>(by rw [hp] at b1;cases b1),fun he=>?_⟩,?_⟩
        ·rcases yu with (h | h) | h
         ·have he:early.contains i=true:=he;rw [he] at h;cases h
         ·exact AO.ofExt (JR h)
         ·split at h
          ·rename_i k hk;refine (wZ k hk).mono fun b _ hb=>?_
           obtain ⟨q,q1,q2⟩:=hb;exact .inl ⟨k,q,by simpa using h,q1,q2⟩
          ·cases h
        ·have T:=(v6 m _ (bM BQ hr) R' h2 CG fun ρ2 a2 w2 q1 q2 q3 q4=>hQ ρ2 a2 w2 q1 (st.st.trans q2) (fun k p hk hp=>q3 k p hk (st.pl k p hp)) (q4.trans Dy)).1 b2;refine cR (fun j w1 w2 hR=>⟨hR.1,fun he=>(hR.2 he).mono fun b jr hb=>?_⟩) _ _ _ _ T;rcases hb with ⟨k,q,k1,k2,k3⟩ | hb
         ·by_cases hk:k<ρ.length
          ·have e:=st.pl k _ (zAe hk);rw [e] at k2;exact .inl ⟨k,q,k1,by rw [zAe hk];exact k2,k3⟩
          ·refine .inr ?_;rw [R.hr.len] at hk;rcases ya with hx | hx
           ·have:=zCs.1 hx k (sub k1);simp only [zDH] at this;omega
           ·have Cv:k<S1.h.length:=by rw [←R'.hr.len];exact (zCr.1 k2).1
            have ha:=zCs.1 zO k (sub k1);simp only [zC7,zDH] at ha;rcases ha with ha | ha
            ·omega
            ·cases hg:S1.h.getD k none with
             | none=>rw [hg] at ha;cases ha
             | some ob=>
              rcases st.st.grow b ⟨k,ob,q,getD_some hg,k2,k3⟩ with ⟨i2,o2,p2,g1,g2,g3⟩ | h
              ·exfalso
               have yg:=(zCr.1 g1).1;have VX:=zCs.1 hx i2 (zCy.2 yg);have e2:S.h.getD i2 none=some o2:=by rw [u8,g1];rfl
               rw [e2] at VX;cases jY:S1.h.getD i2 none with
               | none=>rw [jY] at VX;cases VX
               | some te=>exact R'.hr.dis i2 k te ob p2 q b (by omega) (getD_some jY) (getD_some hg) (st.pl i2 p2 g2) k2 g3 k3
              ·exact h
         ·exact .inr (zCv st.st.upd.size hb)
      refine ⟨fun h=>?_,fun h j hj hr=>?_⟩
      ·have Ou:Region.ready .any ops L=i::TI HI:=by
        cases m <;> simp only [D8,zCp,zC7,zDB,TI,zDU,false_or] at h;exact h.1.1.1
       obtain ⟨m',e,ha,hw⟩:=one false h (by rw [Ou];simp);subst e;refine ⟨by rw [Ou];simp,fun j hj=>?_⟩;have Fy:=hj;rw [Ou] at hj;rcases zDF.1 hj with rfl | hj
       ·exact hw
       ·obtain ⟨m2,e2,Rm⟩:=A.2 ha j hj Fy;cases e2;exact Rm
      ·rcases zDF.1 hj with rfl | hj
       ·obtain ⟨m',e,ha,hw⟩:=one true h (by simpa using hr);exact ⟨m',e,hw⟩
       ·have ha:D8 ops early true m HI L=true:=by
         cases m <;> simp only [D8,zCp] at h
         ·cases h
         ·exact h.2
        exact A.2 ha j hj hr
    ·cases hV
theorem Tr.tree {F:Fence} {B:Option Nat} {L:Nat} {Y:Bi P Γ L} {Q:QY P Γ L} (hF:D4 F P) {id:Nat} {ops:Array Oper} {early:List Nat} {t:ST} {Aq CO:Bz} {S':St} {vs:List Prop} (hm:P.follows .mixedOrders=true) (hB:CQ ops early t)
 (h:XR P Γ ops early t S Aq=some (S',vs,CO)) (hv:Bm vs) (hk:Q .normal S' Y):Tr P Γ F B L Y (.region id ops true) S Q:=fun N ρ a w R y m b=>by
 simp only [CQ,zCp] at hB;obtain ⟨⟨h1,h2⟩,h3⟩:=hB;unfold XR at h;split at h
 ·cases h
 split at h
 ·cases h
 ·rename_i hV;cases h;have hE:Ar w w.drew:=Ar.toDrew w;refine nB hm ((nl hF h3 h2 t ops.size _ zBd (R.ext hE) hV hv fun ρ' a' w' R' st Z9 Dy=>?_).1 h1);have Dk:BH S.h ρ w S'.h ρ' w':=(BH.ext hE).trans st;exact Tr.done R y m b hk R' Dk (fun k p _ hp=>Z9 k p (by rw [←R.hr.len];exact (zCr.1 hp).1) hp) Dy
end
end Go.Proofs.YtgkhhfnhacibcaaGreatDoor
namespace Go.Proofs.YtgkhhfnhacibcaaGreatDoor
abbrev zFO:=@Go.IntKind.wrap_i64
end Go.Proofs.YtgkhhfnhacibcaaGreatDoor
namespace Go.Proofs.YtgkhhfnhacibcaaGreatDoor
open Go.RowKit
inductive KI where
 | code (c:Code)
 | blk (id:Nat)
 | scp
 | lend (J:St -> Prop)
 | loopN (m:Nat) (b:Code)
def Ja (P:Program) (Γ:A1) (F:Fence) (B:Option Nat) (L:Nat) (b:Code) (Q:QY P Γ L):Nat -> St -> Bi P Γ L -> Prop
 | 0,_,_=>False
 | m+1,S,Y=>Tr P Γ F B L Y b S (P5 (Ja P Γ F B L b Q m) Q)
theorem Ja.loop {P:Program} {Γ:A1} {F:Fence} {B:Option Nat} {L:Nat} {Y:Bi P Γ L} {b:Code} {Q:QY P Γ L} {m:Nat} {S:St} (h:Ja P Γ F B L b Q m S Y):Tr P Γ F B L Y (.loop b) S Q:=by
 refine Tr.loop (fun m S Y=>Ja P Γ F B L b Q m S Y) m h fun m S Y hm=>?_
 cases m with
 | zero=>exact hm.elim
 | succ m=>
  refine Tr.mono hm fun e S' Y' hq=>?_
  cases e with
  | normal=>exact ⟨m,Nat.lt_succ_self m,hq⟩
  | _=>exact hq
def Dp (P:Program) (Γ:A1) (F:Fence) (B:Option Nat) (L:Nat) (Q:QY P Γ L):List KI -> QY P Γ L
 | [],e,S,Y=>Q e S Y
 | .code c::k,e,S,Y=>match e with
  | .normal=>Tr P Γ F B L Y c S (Dp P Γ F B L Q k)
  | e=>Dp P Γ F B L Q k e S Y
 | .blk id::k,e,S,Y=>match e with
  | .exit i=>if i=id then Dp P Γ F B L Q k .normal S Y else Dp P Γ F B L Q k (.exit i) S Y
  | e=>Dp P Γ F B L Q k e S Y
 | .scp::k,e,S,Y=>match e with
  | .goto _=>False
  | e=>Dp P Γ F B L Q k e S Y
 | .lend J::k,e,S,Y=>match e with
  | .normal=>J S
  | e=>Dp P Γ F B L Q k e S Y
 | .loopN m b::k,e,S,Y=>match e with
  | .normal=>Ja P Γ F B L b (Dp P Γ F B L Q k) m S Y
  | e=>Dp P Γ F B L Q k e S Y
def Av (P:Program) (Γ:A1) (F:Fence) (B:Option Nat) (L:Nat) (Y:Bi P Γ L) (Q:QY P Γ L) (k:List KI) (S:St):Prop:=Dp P Γ F B L Q k .normal S Y
def stay {P:Program} {Γ:A1} {L:Nat} (N:Bi P Γ L) (Q:Exit -> St -> Prop):QY P Γ L:=fun e S Y=>Y=N/\ Q e S
abbrev BU (P:Program) (Γ:A1) (F:Fence) (B:Option Nat) (L:Nat) (N:Bi P Γ L) (Q:Exit -> St -> Prop) (k:List KI) (S:St):Prop:=Av P Γ F B L N (stay N Q) k S
def IP (id:Nat):List KI -> Option (List KI)
 | []=>none
 | .blk i::k=>if id=i then some k else IP id k
 | _::k=>IP id k
inductive cD where
 | no
 | ord (st:List (List Nat×Nat)) (la ta:List Nat)
 | stop
 | tre (early:List Nat) (t:ST)
abbrev Bb:=Nat -> cD
def cD.isStop:cD -> Bool
 | .stop=>true
 | _=>false
def BS (i:Nat) (s:Bb):Bb:=fun j=>if j=i then .stop else s j
def At (ops:Array Oper) (Eh:List (List Nat×Nat)) (Bc tail:List Nat):Prop:=(Xm ops Eh Bc tail&&EB ops&&tail.all fun t=>decide (t<ops.size))=true
inductive KO where
 | at (k:List KI)
 | ret
def B5 (P:Program) (Γ:A1) (Ax:Bb):Nat -> List KI -> St -> Bz -> Option (KO×St×List Prop×Bz)
 | 0,_,_,_=>none
 | n+1,k,S,o=>match k with
  | []=>some (.at [],S,[],o)
  | .blk _::k=>B5 P Γ Ax n k S o
  | .scp::k=>B5 P Γ Ax n k S o
  | .lend J::k=>some (.at (.lend J::k),S,[],o)
  | .loopN m b::k=>some (.at (.loopN m b::k),S,[],o)
  | .code c::k=>match c with
   | .skip=>B5 P Γ Ax n k S o
   | .seq a b=>B5 P Γ Ax n (.code a:: .code b::k) S o
   | .block id b=>B5 P Γ Ax n (.code b:: .blk id::k) S o
   | .scope b=>B5 P Γ Ax n (.code b:: .scp::k) S o
   | .label _=>B5 P Γ Ax n k S o
   | .exit id=>match IP id k with
    | some k'=>B5 P Γ Ax n k' S o
    | none=>some (.at (.code (.exit id)::k),S,[],o)
   | .ret=>some (.ret,S,[],o)
   | .cond x a b=>match Aa S.fr x with
    | .bool true=>B5 P Γ Ax n (.code a::k) S o
    | .bool false=>B5 P Γ Ax n (.code b::k) S o
    | _=>none
   | .region id ops dr=>if (Ax id).isStop then some (.at (.code (.region id ops dr)::k),S,[],o) else match dr with
    | false=>if EB ops then match E2 P Γ ops ops.toList S o with
     | none=>none
     | some (S',vs,o')=>match B5 P Γ Ax n k S' o' with
      | none=>none
      | some (r,Cs,BY,RC)=>some (r,Cs,vs++BY,RC)
     else none
    | true=>match Ax id with
     | .no=>none
     | .stop=>none
     | .tre early t=>match XR P Γ ops early t S o with
      | none=>none
      | some (S',vs,o')=>match B5 P Γ Ax n k S' o' with
       | none=>none
       | some (r,Cs,BY,RC)=>some (r,Cs,CQ ops early t::(vs++BY),RC)
     | .ord st la ta=>match hseq P Γ ops S.h st la ta S o with
      | none=>none
      | some (S',vs,o')=>match B5 P Γ Ax n k S' o' with
       | none=>none
       | some (r,Cs,BY,RC)=>some (r,Cs,At ops st la ta::(vs++BY),RC)
   | c=>some (.at (.code c::k),S,[],o)
section
variable {P:Program} {Γ:A1} {F:Fence} {B:Option Nat} {L:Nat} {Y:Bi P Γ L} {Q:QY P Γ L}
theorem zk (hF:D4 F P) {S:St} {id:Nat} {ops:Array Oper} {Aq CO:Bz} {S':St} {vs:List Prop} {Q:QY P Γ L} (A5:EB ops=true) (h:E2 P Γ ops ops.toList S Aq=some (S',vs,CO)) (hv:Bm vs) (hk:Q .normal S' Y):Tr P Γ F B L Y (.region id ops false) S Q:=fun N ρ a w R y m b=>
 wpIn_region_list (Ld hF A5 _ (fun o ho=>by simpa using ho) R h hv fun ρ' a' w' R' st Dy=>Tr.done R y m b hk R' st.st (fun k p _ hp=>st.pl k p hp) Dy)
theorem wg (hF:D4 F P) {S:St} {id:Nat} {ops:Array Oper} {Eh:List (List Nat×Nat)} {Bc tail:List Nat} {Aq CO:Bz} {S':St} {vs:List Prop} {Q:QY P Γ L} (hm:P.follows .mixedOrders=true) (hB:At ops Eh Bc tail)
 (h:hseq P Γ ops S.h Eh Bc tail S Aq=some (S',vs,CO)) (hv:Bm vs) (hk:Q .normal S' Y):Tr P Γ F B L Y (.region id ops true) S Q:=fun N ρ a w R y m b=>by
 simp only [At,zCp] at hB;obtain ⟨⟨h1,h2⟩,h3⟩:=hB;have hE:Ar w w.drew:=Ar.toDrew w;refine nA hF.fn Eh Bc tail hm (by simp only [zCp];exact ⟨h1,h2⟩) (Zg hF h2 Eh Bc tail h3 (R.ext hE) (C5.refl _ _ _) (Ar.refl _) h hv fun ρ' a' w' R' st Dy=>?_);have Dk:BH S.h ρ w S'.h ρ' w':=(BH.ext hE).trans st.st;exact Tr.done R y m b hk R' Dk (fun k p _ hp=>st.pl k p hp) Dy
theorem MZ {id:Nat} {S:St}: ∀ {k k':List KI},IP id k=some k' -> Dp P Γ F B L Q k' .normal S Y -> Dp P Γ F B L Q k (.exit id) S Y
 | [],_,h,_=>by cases h
 | .blk i::k,k',h,hq=>by
  unfold IP at h;split at h
  ·rename_i e;cases h;subst e
   show (if id=id then _ else _)
   rw [zB3 rfl];exact hq
  ·rename_i e
   show (if id=i then _ else _)
   rw [zCt e];exact MZ h hq
 | .code c::k,k',h,hq=>MZ (k:=k) h hq
 | .lend J::k,k',h,hq=>MZ (k:=k) h hq
 | .scp::k,k',h,hq=>MZ (k:=k) h hq
 | .loopN m b::k,k',h,hq=>MZ (k:=k) h hq
theorem OH {S:St} (h:Q .ret S Y): ∀ (k:List KI),Dp P Γ F B L Q k .ret S Y
 | []=>h
 | .blk _::k=>OH h k
 | .code _::k=>OH h k
 | .lend _::k=>OH h k
 | .scp::k=>OH h k
 | .loopN _ _::k=>OH h k
def KOk (P:Program) (Γ:A1) (F:Fence) (B:Option Nat) (L:Nat) (Y:Bi P Γ L) (Q:QY P Γ L):KO -> St -> Prop
 | .at k,S=>Av P Γ F B L Y Q k S
 | .ret,S=>Q .ret S Y
theorem FI (hF:D4 F P) (hm:P.follows .mixedOrders=true) {Ax:Bb}: ∀ (n:Nat) (k:List KI) (S:St) (o:Bz) (r:KO) (S':St) (vs:List Prop) (o':Bz),B5 P Γ Ax n k S o=some (r,S',vs,o') -> Bm vs -> KOk P Γ F B L Y Q r S' -> Av P Γ F B L Y Q k S
 | 0,_,_,_,_,_,_,_,h,_,_=>by cases h
 | n+1,k,S,o,r,S',vs,o',h,hv,hk=>by
  unfold B5 at h;cases k with
  | nil=>cases h;exact hk
  | cons i k=>
   cases i with
   | blk id=>exact FI hF hm n k S o r S' vs o' h hv hk
   | scp=>exact FI hF hm n k S o r S' vs o' h hv hk
   | lend J=>cases h;exact hk
   | loopN m b=>cases h;exact hk
   | code c=>
    show Tr P Γ F B L Y c S (Dp P Γ F B L Q k)
    cases c with
    | skip=>exact Tr.skip (FI hF hm n k S o r S' vs o' h hv hk)
    | seq a b=>
     refine Tr.seq (Tr.mono (FI hF hm n (.code a:: .code b::k) S o r S' vs o' h hv hk) fun e S2 Y2 hq=>?_);cases e <;> exact hq
    | block id b=>
     refine Tr.block (Tr.mono (FI hF hm n (.code b:: .blk id::k) S o r S' vs o' h hv hk) fun e S2 Y2 hq=>?_);cases e <;> exact hq
    | exit id=>
     simp only at h;split at h
     ·rename_i k' hp;exact Tr.exit (MZ hp (FI hF hm n k' S o r S' vs o' h hv hk))
     ·cases h;exact hk
    | ret=>cases h;exact Tr.ret (OH hk k)
    | cond x a b=>
     simp only at h;split at h
     ·rename_i hc;exact Tr.cond hc (fun _=>FI hF hm n (.code a::k) S o r S' vs o' h hv hk) (fun e=>by cases e)
     ·rename_i hc;exact Tr.cond hc (fun e=>by cases e) (fun _=>FI hF hm n (.code b::k) S o r S' vs o' h hv hk)
     ·cases h
    | region id ops dr=>
     simp only at h;split at h
     ·cases h;exact hk
     ·cases dr with
      | false=>
       simp only at h;split at h
       ·rename_i A5;split at h
        ·cases h
        ·rename_i S1 Cw o1 h1;split at h
         ·cases h
         ·rename_i r2 S2 FS o2 h2;cases h;obtain ⟨BZ,CG⟩:=Cz.1 hv;exact zk hF A5 h1 BZ (FI hF hm n k S1 o1 _ _ _ _ h2 CG hk)
       ·cases h
      | true=>
       simp only at h;split at h
       ·cases h
       ·cases h
       ·rename_i early t hs;split at h
        ·cases h
        ·rename_i S1 Cw o1 h1;split at h
         ·cases h
         ·rename_i r2 S2 FS o2 h2;cases h;obtain ⟨Hm,Cu⟩:=hv;obtain ⟨BZ,CG⟩:=Cz.1 Cu;exact Tr.tree hF hm Hm h1 BZ (FI hF hm n k S1 o1 _ _ _ _ h2 CG hk)
       ·rename_i st la ta hs;split at h
        ·cases h
        ·rename_i S1 Cw o1 h1;split at h
         ·cases h
         ·rename_i r2 S2 FS o2 h2;cases h;obtain ⟨Hm,Cu⟩:=hv;obtain ⟨BZ,CG⟩:=Cz.1 Cu;exact wg hF hm Hm h1 BZ (FI hF hm n k S1 o1 _ _ _ _ h2 CG hk)
    | loop b=>cases h;exact hk
    | rangeFunc f ps mH bd=>cases h;exact hk
    | scope b=>
     refine Tr.scope (Tr.mono (FI hF hm n (.code b:: .scp::k) S o r S' vs o' h hv hk) fun e S2 Y2 hq=>?_);cases e <;> exact hq
    | label l=>exact Tr.label (FI hF hm n k S o r S' vs o' h hv hk)
    | goto l=>cases h;exact hk
    | refuse w=>cases h;exact hk
theorem Av.weaken {k:List KI} {S S':St} (hS:BO L S S') (h:Av P Γ F B L Y Q k S') (hk: ∃ c k',k= .code c::k'):Av P Γ F B L Y Q k S:=by
 obtain ⟨c,k',rfl⟩:=hk;exact Tr.weaken hS h
def Mv:List KI -> Bool
 | .code (.loop _)::_=>true
 | _=>false
def ER (k:List KI):List KI:=match k with
 | _::rest=>rest
 | []=>[]
def Lj (id:Nat):List Nat -> Code -> List KI -> Option (List KI)
 | ms,.seq a b,k=>match Lj id ms a (.code b::k) with
  | some r=>some r
  | none=>Lj id ms b k
 | ms,.cond _ a b,k=>match Lj id ms a k with
  | some r=>some r
  | none=>Lj id ms b k
 | ms,.block i c,k=>if i=id then some (.code c:: .blk i::k) else Lj id ms c (.blk i::k)
 | ms,.scope c,k=>Lj id ms c (.scp::k)
 | m::ms,.loop b,k=>Lj id ms b (.loopN m b::k)
 | _,_,_=>none
def Lk (id:Nat):List Nat -> Code -> List KI -> Option (List KI)
 | ms,.seq a b,k=>match Lk id ms a (.code b::k) with
  | some r=>some r
  | none=>Lk id ms b k
 | ms,.cond _ a b,k=>match Lk id ms a k with
  | some r=>some r
  | none=>Lk id ms b k
 | ms,.block i c,k=>Lk id ms c (.blk i::k)
 | ms,.scope c,k=>Lk id ms c (.scp::k)
 | m::ms,.loop b,k=>Lk id ms b (.loopN m b::k)
 | _,.region i ops dr,k=>if i=id then some (.code (.region i ops dr)::k) else none
 | _,_,_=>none
def Ak (m:Nat) (k:List KI):List KI:=match k with
 | .code (.loop b)::rest=>.loopN m b::rest
 | _=>[]
def cr (m:Nat) (k:List KI):List KI:=match k with
 | .code (.loop b)::rest=>.code b:: .loopN m b::rest
 | _=>[]
def start (f:Func):List KI:=match f.body with
 | some c=>[.code c]
 | none=>[]
def I6 (c:Code) (id:Nat):Array Oper:=match c with
 | .region i ops _=>if i=id then ops else #[]
 | .seq a b=>let x:=I6 a id;if x.size=0 then I6 b id else x
 | .cond _ a b=>let x:=I6 a id;if x.size=0 then I6 b id else x
 | .block _ c=>I6 c id
 | .loop c=>I6 c id
 | .scope c=>I6 c id
 | .rangeFunc _ _ a b=>let x:=I6 a id;if x.size=0 then I6 b id else x
 | _=>#[]
def BA (f:Func) (id:Nat):Array Oper:=match f.body with
 | some c=>I6 c id
 | none=>#[]
theorem BU.enter {k:List KI} {S:St} (m:Nat) (hk:Mv k=true) (h:Av P Γ F B L Y Q (Ak m k) S):Av P Γ F B L Y Q k S:=by
 unfold Mv at hk;split at hk
 ·exact Ja.loop h
 ·cases hk
theorem BU.round {k:List KI} {S:St} {n m:Nat} (hm:n+1<=m) (hk:Mv k=true) (h: ∀ m,n<=m -> Av P Γ F B L Y Q (cr m k) S):Av P Γ F B L Y Q (Ak m k) S:=by
 cases m with
 | zero=>omega
 | succ m=>
  have h:=h m (Nat.le_of_succ_le_succ hm);unfold Mv at hk;split at hk
  ·refine Tr.mono h fun e S' Y' hq=>?_
   cases e <;> exact hq
  ·cases hk
def AM (n:Nat) (l:List (Nat×DV)):List DV:=(List.range n).map fun i=>match l.find? (fun x=>x.1==i) with
 | some x=>x.2
 | none=>.any
theorem F3.le {fn:Func} {d:DV} {h':DH} {e:Exit} {S S':St} (hS:BO L S S') (h:F3 P fn L d h' e S'):F3 P fn L d h' e S:=by
 obtain ⟨he,Cs,h1,h2⟩:=h;exact ⟨he,Cs,hS.trans h1,h2⟩
theorem ES.of_trk {f:Nat} {fn:Func} {ds:List DV} {h:DH} {d:DV} {h':DH} {ext:Bool} (hf:P.funcs[f]? =some fn) (hb:fn.body.isSome=true) (KH:(fn.name== "runtime.NumGoroutine")=false) (hni:RG h') (JR:ext=true -> h= [])
 (H: ∀ (B:Nat) (N:Bi P Γ h.length),BU P Γ Fence.wide (some B) h.length N (F3 P fn h.length d h') (start fn) ⟨ds++List.replicate (fn.ntmps-ds.length) .any,h⟩):ES P Γ f ds h d h' ext:=by
 cases hc:fn.body with
 | none=>rw [hc] at hb;cases hb
 | some c=>
  refine ES.of_tr hf hc (by simpa using KH) hni (fun B N=>?_) JR;have:=H B N;unfold start at this;rw [hc] at this;refine Tr.mono this fun e S Y hq=>?_
  cases e <;> exact hq
def G5:DV -> Bool
 | .mse .. =>false
 | .mri .. =>false
 | .ref .. =>false
 | .msl .. =>false
 | .mp .. =>false
 | .it _=>false
 | .agg m f=>(List.range m).all fun j=>G5 (f j)
 | .tup m f=>(List.range m).all fun j=>G5 (f j)
 | .fn _ m f=>(List.range m).all fun j=>G5 (f j)
 | _=>true
theorem OS: ∀ {d:DV},G5 d=true -> H4 d:=by
 intro d
 induction d with
 | any=>exact fun _ _ _ _ _ _=>trivial
 | nils=>exact fun _ _ _ _ _ h=>h
 | int k n=>exact fun _ _ _ _ _ h=>h
 | bool b=>exact fun _ _ _ _ _ h=>h
 | str s=>exact fun _ _ _ _ _ h=>h
 | ints l=>exact fun _ _ _ _ _ h=>h
 | bools l=>exact fun _ _ _ _ _ h=>h
 | sl m n f _=>exact fun _ _ _ _ _ h=>h
 | fp m f _=>exact fun _ _ _ _ _ h=>h
 | agg m f ih=>exact fun hb=>H4.agg fun j hj=>ih j (zCs.1 hb j (zCy.2 hj))
 | tup m f ih=>exact fun hb=>H4.tup fun j hj=>ih j (zCs.1 hb j (zCy.2 hj))
 | ref k j=>exact fun hb=>by cases hb
 | msl k m o n=>exact fun hb=>by cases hb
 | mp k m i j=>exact fun hb=>by cases hb
 | fn g m c ih=>exact fun hb M w ρ v ⟨cs,e,hs,hc⟩=>⟨cs,e,hs,fun j hj=>let ⟨u,h1,h2⟩:=hc j hj;⟨u,h1,ih j (zCs.1 hb j (zCy.2 hj)) M w ρ u h2⟩⟩
 | it k=>exact fun hb=>by cases hb
 | yl l=>exact fun _ _ _ _ _ h=>h
 | cst u=>exact fun _ _ _ _ _ h=>h
 | mse k m o n=>exact fun hb=>by cases hb
 | mri k i=>exact fun hb=>by cases hb
theorem ES.frameB {f:Nat} {ds:List DV} {d:DV} (h0:ES P Γ f ds [] d [] true) (h:DH) (Ff:ds.all G5=true):ES P Γ f ds h d h true:=h0.frame (fun x hx=>OS (zCs.1 Ff x hx)) h
def Tu:DV -> Bool
 | .int .. =>true
 | .bool _=>true
 | .tup m f=>(List.range m).all fun j=>match f j with
  | .int .. =>true
  | .bool _=>true
  | _=>false
 | _=>false
theorem pJ {d:DV} (h:Tu d=true):Gk d:=by
 unfold Tu at h;split at h
 ·exact Gk.int _ _
 ·exact Gk.bool _
 ·rename_i m f;refine Gk.tup fun j hj=>?_
  have:=zCs.1 h j (zCy.2 hj);split at this
  ·rename_i e;rw [e];exact Gk.int _ _
  ·rename_i e;rw [e];exact Gk.bool _
  ·cases this
 ·cases h
def Ls (h:DH):List DV -> List DV -> Prop
 | [],[]=>True
 | d::ds,d0::D1=>AR h d d0/\ Ls h ds D1
 | _,_=>False
theorem Ph {h:DH}: ∀ {ds D1:List DV},Ls h ds D1 -> D1.length=ds.length/\ ∀ i,i<ds.length -> AR h (ds.getD i .any) (D1.getD i .any)
 | [],[],_=>⟨rfl,fun i hi=>absurd hi (zCz i)⟩
 | d::ds,d0::D1,⟨h1,h2⟩=>by
  obtain ⟨e,g⟩:=Ph h2;refine ⟨by simp [e],fun i hi=>?_⟩;cases i with
  | zero=>exact h1
  | succ i=>exact g i (by simpa using hi)
 | [],_::_,h=>h.elim
 | _::_,[],h=>h.elim
theorem AR.plain {h:DH} {d:DV} (hn:G5 d=true):AR h d d:=AR.nref (OS hn)
theorem AR.nils {h:DH}:AR h .nils (.ints []):=fun _ _ _ _ _ _ _ hr=>AQ.ints_nil _ _ _ _ (AK.out _ (Db (M:=fun _=>False) (fun _ hb=>hb) []) hr)
theorem ES.snapB {f:Nat} {ds D1:List DV} {d:DV} (h0:ES P Γ f D1 [] d [] true) (h:DH) (hs:Ls h ds D1) (hd:Tu d=true):ES P Γ f ds h d h true:=ES.snap h0 h (Ph hs).1 (Ph hs).2 (pJ hd)
theorem AQ.of_eq {d d':DV} (h:d=d'):AQ d d':=by rw [h];exact AQ.refl _
theorem Og {M:Nat -> Prop} {w:World} {ρ:List AJ} {v:Value} {l:List Int} (h:AK M w (.ints l) ρ v):l.length<=LB:=let ⟨_,_,_,_,h,_⟩:=h;h
theorem m6 {x c:Int} (h1:x=c) (h2: -9223372036854775808<=c) (h3:c<=9223372036854775807):IntKind.i64.wrap x=c:=by
 subst h1;rw [zFO];omega
end
end Go.Proofs.YtgkhhfnhacibcaaGreatDoor
namespace Go.Proofs.YtgkhhfnhacibcaaGreatDoor
open Go.RowKit
def Lw (w:World):Prop:=TabAt 1 Lib.deBruijn64tab w
def GG:A1 where
 ng:=2
 gi:=fun w=>Lw w/\ 2<=w.heap.size
 st:=fun w w' h hu=>⟨fun j hj=>hu.cell (by show ¬ (2<=1);omega) (h.1 j hj),zCv h.2 hu.size⟩
 lo:=fun w h=>h.2
end Go.Proofs.YtgkhhfnhacibcaaGreatDoor
namespace Go.Proofs.YtgkhhfnhacibcaaGreatDoor
abbrev zEk:=@List.all_cons
end Go.Proofs.YtgkhhfnhacibcaaGreatDoor
namespace Go.Proofs.YtgkhhfnhacibcaaGreatDoor
open Go.RowKit
theorem EI {α:Type} {c:Prop} [Decidable c] {a:Option α} {r:α} (h:(if c then a else none)=some r):c/\ a=some r:=by
 split at h
 ·exact ⟨by assumption,h⟩
 ·cases h
theorem bT {α β:Type} {o:Option β} {f:β -> Option α} {r:α} (h:o.bind f=some r): ∃ v,o=some v/\ f v=some r:=by
 cases o with
 | none=>cases h
 | some v=>exact ⟨v,rfl,h⟩
theorem Gh {α:Type} {b:Bool} {x y:Option α} {r:α} (h:(bif b then x else y)=some r):(b=true/\ x=some r)∨(b=false/\ y=some r):=by
 cases b
 ·exact .inr ⟨rfl,h⟩
 ·exact .inl ⟨rfl,h⟩
def sV:Int -> Bool
 | .ofNat n=>Nat.ble n 9223372036854775807
 | .negSucc n=>Nat.ble n 9223372036854775807
def AI (x:Int):Prop:=sV x=true
instance (x:Int):Decidable (AI x):=by unfold AI;infer_instance
theorem An {x:Int}:AI x↔-9223372036854775808<=x/\ x<=9223372036854775807:=by
 unfold AI;cases x with
 | ofNat n=>
  show Nat.ble n 9223372036854775807=true↔_
  rw [Nat.ble_eq];simp only [Int.ofNat_eq_natCast];omega
 | negSucc n=>
  show Nat.ble n 9223372036854775807=true↔_
  rw [Nat.ble_eq];omega
theorem m7 {x:Int} (h:AI x):AQ (.int .i64 (IntKind.i64.wrap x)) (.int .i64 x):=AQ.int (m6 rfl (An.1 h).1 (An.1 h).2)
def comp (live σ:List Nat) (S:St):St:=Fg σ ⟨forget live S.fr,S.h⟩
def Jn (σ:List Nat) (L n:Nat):Bool:=decide σ.Nodup&&σ.all (fun k=>decide (k<n))&&(List.range L).all fun k=>decide (σ[k]? =some k)
theorem BO.comp {L:Nat} (live σ:List Nat) (S:St) (h:Jn σ L S.h.length=true):BO L S (comp live σ S):=by
 simp only [Jn,zCp,zDH,zCs,zCy] at h;exact (BO.forget live S.fr S.h).trans (BO.compact σ _ h.1.1 (fun k hk=>h.1.2 k hk) (fun k hk=>h.2 k hk))
def Q7 (live σ:List Nat) (L:Nat) (r:KO×St×List Prop×Bz):KO×List DV×DH×List Prop×List (DV×DH×Bool)×List (Nat×DV)×Bool:=(r.1,(Proofs.YtgkhhfnhacibcaaGreatDoor.comp live σ r.2.1).fr,(Proofs.YtgkhhfnhacibcaaGreatDoor.comp live σ r.2.1).h,r.2.2.1,r.2.2.2.calls,r.2.2.2.co,Jn σ L r.2.1.h.length)
section
variable {P:Program} {Γ:A1} {F:Fence} {B:Option Nat} {L:Nat} {Y N:Bi P Γ L} {Q:QY P Γ L}
theorem tO {Ax:Bb} {n:Nat} {k:List KI} {S:St} {o:Bz} {live σ:List Nat} {r:KO} {fr:List DV} {h':DH} {vs:List Prop} (h:(B5 P Γ Ax n k S o).map (Q7 live σ L)=some (r,fr,h',vs,[],[],true)):
 ∃ S' o',B5 P Γ Ax n k S o=some (r,S',vs,o')/\ BO L S' ⟨fr,h'⟩:=by
 cases hr:B5 P Γ Ax n k S o with
 | none=>rw [hr] at h;cases h
 | some r=>
  obtain ⟨r1,S1,Cw,⟨c1,o1,z1,g1⟩⟩:=r;rw [hr] at h;simp only [zDI,Q7,zDm,zD7] at h;obtain ⟨rfl,rfl,rfl,rfl,rfl,rfl,hs⟩:=h;exact ⟨S1,_,rfl,BO.comp live σ S1 hs⟩
def IT:List KI -> Bool
 | .code _::_=>true
 | .loopN _ _::_=>true
 | _=>false
theorem Ja.weaken {b:Code} {m:Nat} {S S':St} (hS:BO L S S') (h:Ja P Γ F B L b Q m S' Y):Ja P Γ F B L b Q m S Y:=by
 cases m with
 | zero=>exact h.elim
 | succ m=>exact Tr.weaken hS h
theorem BU.le {k:List KI} {S S':St} (hS:BO L S S') (hc:IT k=true) (h:Av P Γ F B L Y Q k S'):Av P Γ F B L Y Q k S:=by
 unfold IT at hc;split at hc
 ·exact Av.weaken hS h ⟨_,_,rfl⟩
 ·exact Ja.weaken hS h
 ·cases hc
theorem BO.frzE {S:St} (k:Nat) (S':St) (vs:List Prop) (h:SL k S=some (S',vs)) (hv:Bm vs):BO L S S':=fun P Γ N ρ a w R=>
 ⟨ρ,(Dq.frzE k S' vs h hv P Γ N ρ a w R).1,(Dq.frzE k S' vs h hv P Γ N ρ a w R).2,Ef.refl _ _⟩
theorem BO.compE {S:St} (σ:List Nat) (h:Jn σ L S.h.length=true):BO L S (Fg σ S):=by
 simp only [Jn,zCp,zDH,zCs,zCy] at h;exact BO.compact σ _ h.1.1 (fun k hk=>h.1.2 k hk) (fun k hk=>h.2 k hk)
def Yg:Option DO -> Bool
 | some (.iter _)=>false
 | _=>true
theorem gh {h:DH} (hb:h.all Yg=true):RG h:=fun k encs hk=>by
 have:=zCs.1 hb _ (zDN hk);cases this
theorem AR.refL {h:DH} {k:Nat} {l l0:List DV} (hk:h[k]? =some (some (.cells l))) (hs:Ls h l l0):AR h (.ref k 0) (.fp l.length (fun j=>l0.getD j .any)):=
 AR.ref hk (zC6 _) fun j hj=>(Ph hs).2 j hj
theorem AR.fnL {h:DH} {g:Nat} {l l0:List DV} (hs:Ls h l l0):AR h (.fn g l.length (fun j=>l.getD j .any)) (.fn g l.length (fun j=>l0.getD j .any)):=by
 rintro P Γ N ρ w v H ⟨lb,e,hl,hc⟩;exact ⟨lb,e,hl,fun j hj=>let ⟨u,h1,h2⟩:=hc j hj;⟨u,h1,(Ph hs).2 j hj P Γ N ρ w u H h2⟩⟩
theorem AQ.ixI (l:List Int) {n:Int} {m:Nat} (hm:m=l.length) (h:(0:Int)<=n/\ n<((m:Nat):Int)):AQ ((l.map (DV.int .i64)).getD n.toNat .any) (.int .i64 (l.getD n.toNat 0)):=by
 subst hm;have hl:n.toNat<l.length:=by omega
 have:(l.map (DV.int .i64)).getD n.toNat .any= .int .i64 (l.getD n.toNat 0):=by simp [hl]
 rw [this];exact AQ.refl _
theorem AQ.mslN {k m o n n':Nat} (h:n=n'):AQ (.msl k m o n) (.msl k m o n'):=by rw [h];exact AQ.refl _
def rG:DO -> Bool
 | .ints _=>true
 | .bools _=>true
 | _=>false
theorem ES.snapNew {f:Nat} {ds D1:List DV} {m n:Nat} {o:DO} (h0:ES P Γ f D1 [] (.msl 0 m 0 n) [some o] true) (h:DH) (hs:Ls h ds D1) (ho:rG o=true):ES P Γ f ds h (.msl h.length m 0 n) (h++[some o]) true:=by
 obtain ⟨hl,hs⟩:=Ph hs;refine ⟨h0.1,fun N ρ w args HR Ce=>?_⟩;refine (h0.2 (fun _=>False) [] w args (Ot (fun b hb=>hb.elim) HR.gi) ⟨by rw [hl];exact Ce.1,fun i hi=>?_⟩).mono ?_
 ·rw [hl] at hi;exact AK.out _ (Db (fun b hb=>No.1 hb) []) (hs i hi P Γ N ρ w _ HR (Ce.2 i hi))
 ·rintro e w' ⟨v,rfl,⟨⟨ρ',g1,g2,g3,g4⟩,g5⟩⟩;have hE:=g5 rfl;obtain ⟨p,hp,DC⟩:=g1.obj 0 o rfl;have hf: ∀ b,p.foot b -> w.heap.size<=b:=fun b hb=>(g3.grow b ⟨0,o,p,rfl,hp,hb⟩).resolve_left fun ⟨k,o',p',q1,_⟩=>by simp at q1
  obtain ⟨p',cap,A2,e1,e2,e3,e4⟩:=g2;have ep:p'=p:=zCq (A2.symm.trans hp);subst ep;refine ⟨v,rfl,⟨⟨ρ++[p'],HR.snoc hE (fun b hb=>⟨hf b hb,(g1.cel 0 o p' b rfl hp hb).2.2⟩) ?_,⟨p',cap,by rw [←HR.len];simp,e1,e2,e3,e4⟩,BH.snoc HR hE hf,fun _ _ h=>Dz h⟩,g5⟩⟩;cases o with
  | ints l=>exact Ab.out DC rfl fun j u _ hu=>hu
  | bools l=>exact Ab.out DC rfl fun j u _ hu=>hu
  | cells l=>cases ho
  | arr m n f=>cases ho
  | iter encs=>cases ho
  | mo x=>cases ho
theorem bz {h:DH}: ∀ {ds:List DV},ds.all G5=true -> Ls h ds ds
 | [],_=>trivial
 | d::ds,hd=>by
  simp only [zEk,zCp] at hd;exact ⟨AR.plain hd.1,bz hd.2⟩
theorem AQ.aggL {m:Nat} {l l':List DV} (hm:m=l.length) (h:Kc l l'):AQ (.agg m (fun j=>l.getD j .any)) (.agg m (fun j=>l'.getD j .any)):=by
 subst hm;rintro M w ρ v ⟨cs,e,hs,hc⟩;exact ⟨cs,e,hs,fun j hj=>let ⟨u,h1,h2⟩:=hc j hj;⟨u,h1,(TJ h).2 j hj M w ρ u h2⟩⟩
theorem AQ.tupL {m:Nat} {l l':List DV} (hm:m=l.length) (h:Kc l l'):AQ (.tup m (fun j=>l.getD j .any)) (.tup m (fun j=>l'.getD j .any)):=by
 subst hm;rintro M w ρ v ⟨cs,e,hs,hc⟩;exact ⟨cs,e,hs,fun j hj=>let ⟨u,h1,h2⟩:=hc j hj;⟨u,h1,(TJ h).2 j hj M w ρ u h2⟩⟩
theorem AR.dle {h:DH} {d d0:DV} (hn:G5 d=true) (hd:AQ d d0):AR h d d0:=fun P Γ N ρ w v H hr=>hd _ _ _ _ ((AR.nref (OS hn)) P Γ N ρ w v H hr)
theorem ES.argsLe {f:Nat} {ds D1:List DV} {h h':DH} {d:DV} {ext:Bool} (h0:ES P Γ f D1 h d h' ext) (hd:Kc ds D1):ES P Γ f ds h d h' ext:=by
 obtain ⟨hl,hd⟩:=TJ hd;exact ⟨h0.1,fun N ρ w args HR Ce=>h0.2 N ρ w args HR ⟨by rw [←hl];exact Ce.1,fun i hi=>hd i (by omega) _ _ _ _ (Ce.2 i (by omega))⟩⟩
theorem AQ.mse_msl {k m o n n':Nat} (h:0<n) (e:n=n'):AQ (.mse k m o n) (.msl k m o n'):=by
 subst e;rintro M w ρ v ⟨p,a,cap,hp,rfl,h1,h2,h3⟩;obtain ⟨rfl,h4⟩:=h3 (by omega);exact ⟨p,cap,hp,rfl,h1,h2,h4⟩
theorem AQ.mse_nil {k m o n:Nat} (h:n=0):AQ (.mse k m o n) (.ints []):=by
 subst h;rintro M w ρ v ⟨p,a,cap,hp,rfl,h1,h2,h3⟩;exact ⟨a,cap,rfl,zD0 _,zD0 _,fun j hj=>absurd hj (zCz j)⟩
theorem UZ {n:Nat} (h:(n==0)=false):0<n:=by
 have:n≠0:=by simpa using h
 omega
def K2 (k off k':Nat):DV -> DV
 | .msl k1 m o n=>if k1=k/\ m=1/\ o=off then .msl k' 1 0 n else .msl k1 m o n
 | d=>d
def fA (k off:Nat) (S:St):Option (St×List Prop):=match S.h.getD k none with
 | some (.ints l)=>some (⟨S.fr.map (K2 k off S.h.length),S.h.set k none++[some (.ints (l.drop off))]⟩,[off<=l.length])
 | _=>none
theorem BO.rootE {S:St} (k off:Nat) (S':St) (vs:List Prop) (h:fA k off S=some (S',vs)) (hv:Bm vs):BO L S S':=fun P Γ N ρ a w R=>by
 unfold fA at h;split at h
 ·rename_i l hl;cases h;have hv:=hv.1;have hk:=getD_some hl;obtain ⟨p,hp,hr⟩:=R.hr.obj k _ hk;have hr:Ab w p l.length _:=hr;obtain ⟨hf,cs,t,c1,c2,c3,c4⟩:=hr
  let p':AJ:={ p with off:=p.off+off }
  obtain ⟨g1,g2⟩:=R.hr.regrow (o':=.ints (l.drop off)) (p':=p') hk hp (AO.refl _ _) (fun b hb=>⟨.inl hb,(R.hr.cel k _ p b hk hp hb).2.2⟩) (by
   refine ⟨hf,cs,t,c1,?_,c3,fun j hj=>?_⟩
   ·simp only [zE2,p'];omega
   ·rw [zE2] at hj;obtain ⟨u,q1,q2⟩:=c4 (off+j) (by omega);refine ⟨u,by rw [←q1];simp only [p',zDb],?_⟩;rw [q2];simp [u8,zEA])
  have O:BV (MS N S.h ρ) w ρ (MS N (S.h.set k none++[some (.ints (l.drop off))]) (ρ++[p'])) w (ρ++[p']):=⟨fun _ _ _ _=>rfl,fun b hb=>hb.elim (fun h=>.inl (.inl h)) fun h=>(g2.grow b h).imp .inr id,fun _ _ h=>Dz h⟩;refine ⟨ρ++[p'],⟨g1,by simp [R.fr.1],fun i hi=>?_⟩,g2,fun _ _ _ h=>Dz h⟩;have BD:i<S.fr.length:=by simpa using hi
  have e:(S.fr.map (K2 k off S.h.length)).getD i .any=K2 k off S.h.length (S.fr.getD i .any):=by simp [BD]
  show AK _ w ((S.fr.map (K2 k off S.h.length)).getD i .any) _ _
  rw [e];have r0:=R.fr.2 i BD;cases hd:S.fr.getD i .any with
  | msl k1 m o n=>
   rw [hd] at r0
   by_cases hc:k1=k/\ m=1/\ o=off
   ·have e2:K2 k off S.h.length (.msl k1 m o n)= .msl S.h.length 1 0 n:=by simp only [K2,zB3 hc]
    rw [e2];obtain ⟨h1,h2,h3⟩:=hc;rw [h1,h2,h3] at r0;obtain ⟨q,cap,hq,hu,u1,u2,u3⟩:=r0;have eq:q=p:=zCq (hq.symm.trans hp);subst eq;exact ⟨p',cap,by rw [←R.hr.len];simp,by rw [hu];simp [p'],u1,u2,by simp only [p'];omega⟩
   ·have e2:K2 k off S.h.length (.msl k1 m o n)= .msl k1 m o n:=by simp only [K2,zCt hc]
    rw [e2];exact AK.out _ O r0
  | _=>rw [hd] at r0;exact AK.out _ O r0
 ·cases h
theorem AQ.msl_mse {k m o n:Nat}:AQ (.msl k m o n) (.mse k m o n):=fun _ _ _ _ ⟨p,cap,hp,hv,h1,h2,h3⟩=>⟨p,_,cap,hp,hv,h1,h2,fun _=>⟨rfl,h3⟩⟩
def Mk (k q:Nat):DV -> DV
 | .msl k1 m o n=>if k1=k then .msl q m o n else .msl k1 m o n
 | .mse k1 m o n=>if k1=k then .mse q m o n else .mse k1 m o n
 | d=>d
def mapOb (g:DV -> DV):Option DO -> Option DO
 | some (.cells l)=>some (.cells (l.map g))
 | o=>o
def gv (k:Nat) (S:St):Option St:=match S.h.getD k none with
 | some (.ints l)=>some ⟨S.fr.map (Mk k S.h.length),(S.h.set k none++[some (DO.ints l)]).map (mapOb (Mk k S.h.length))⟩
 | _=>none
theorem RL {g:DV -> DV} {h:DH} {k:Nat} {o':DO} (hk:(h.map (mapOb g))[k]? =some (some o')): ∃ o,h[k]? =some (some o)/\ mapOb g (some o)=some o':=by
 rw [zC1] at hk;cases hx:h[k]? with
 | none=>rw [hx] at hk;cases hk
 | some x=>
  rw [hx] at hk;have hk:mapOb g x=some o':=zCq hk;cases x with
  | none=>cases hk
  | some o=>exact ⟨o,rfl,hk⟩
theorem MO.mapOb {g:DV -> DV} {h:DH} {ρ:List AJ} {b:Nat}:MO (h.map (mapOb g)) ρ b↔MO h ρ b:=by
 constructor
 ·rintro ⟨k,o',p,h1,h2,h3⟩;obtain ⟨o,g1,_⟩:=RL h1;exact ⟨k,o,p,g1,h2,h3⟩
 ·rintro ⟨k,o,p,h1,h2,h3⟩;cases o with
  | cells l=>exact ⟨k,.cells (l.map g),p,by rw [zC1,h1];rfl,h2,h3⟩
  | _=>exact ⟨k,_,p,by rw [zC1,h1];rfl,h2,h3⟩
theorem BP.mapCells {N:Nat -> Prop} {h:DH} {ρ:List AJ} {w:World} (H:BP P Γ N h ρ w) {g:DV -> DV} (hg: ∀ d u,AK (MS N h ρ) w d ρ u -> AK (MS N h ρ) w (g d) ρ u):BP P Γ N (h.map (mapOb g)) ρ w:=by
 have hM: ∀ b,MS N (h.map (mapOb g)) ρ b -> MS N h ρ b:=fun b hb=>hb.imp id MO.mapOb.1
 refine ⟨by rw [H.len];simp,fun k o' hk=>?_,fun k o' p b h1 h2 h3=>?_,fun k k' o1 o2 p1 p2 b AY h1 h2 h3 h4 h5 h6=>?_,H.nlt,H.gi⟩
 ·obtain ⟨o,h1,h2⟩:=RL hk;obtain ⟨p,hp,hr⟩:=H.obj k o h1;refine ⟨p,hp,?_⟩;have O:BV (MS N h ρ) w ρ (MS N (h.map (mapOb g)) ρ) w ρ:=⟨fun _ _ _ _=>rfl,fun b hb=>.inl (hM b hb),fun _ _ h=>h⟩;cases o with
  | cells l=>
   cases h2
   show Ab w p (l.map g).length _
   rw [zDe];refine Ab.out hr rfl fun j u hj hu=>?_
   have e:(l.map g).getD j .any=g (l.getD j .any):=by simp [hj]
   rw [e];exact AK.out _ O (hg _ _ hu)
  | ints l=>cases h2;exact Ab.out hr rfl fun j u _ hu=>hu
  | bools l=>cases h2;exact Ab.out hr rfl fun j u _ hu=>hu
  | arr m n f=>cases h2;exact Ab.out hr rfl fun j u _ hu=>AK.out _ O.nil hu
  | iter encs=>
   cases h2;obtain ⟨gf,lb,Rd,q1,q2,q3,q4⟩:=hr;exact ⟨gf,lb,Rd,q1,q2,fun b hb=>⟨fun hm=>(q3 b hb).1 (hM b hm),(q3 b hb).2⟩,q4⟩
  | mo x=>cases h2;exact hr
 ·obtain ⟨o,g1,_⟩:=RL h1;exact H.cel k o p b g1 h2 h3
 ·obtain ⟨o,g1,_⟩:=RL h1;obtain ⟨o',g2,_⟩:=RL h2;exact H.dis k k' o o' p1 p2 b AY g1 g2 h3 h4 h5 h6
theorem BO.moveE {S:St} (k:Nat) (S':St) (h:gv k S=some S'):BO L S S':=fun P Γ N ρ a w R=>by
 unfold gv at h;split at h
 ·rename_i l hl;cases h;have hk:=getD_some hl;obtain ⟨p,hp,hr⟩:=R.hr.obj k _ hk;obtain ⟨g1,g2⟩:=R.hr.regrow (o':=.ints l) (p':=p) hk hp (AO.refl _ _) (fun b hb=>⟨.inl hb,(R.hr.cel k _ p b hk hp hb).2.2⟩) hr;have EZ: ∀ (i:Nat) (q:AJ),ρ[i]? =some q -> (ρ++[p])[i]? =some q:=fun _ _ h=>Dz h
  have O:BV (MS N S.h ρ) w ρ (MS N (S.h.set k none++[some (DO.ints l)]) (ρ++[p])) w (ρ++[p]):=⟨fun _ _ _ _=>rfl,fun b hb=>hb.elim (fun h=>.inl (.inl h)) fun h=>(g2.grow b h).imp .inr id,EZ⟩;have hq:(ρ++[p])[S.h.length]? =some p:=by rw [←R.hr.len];simp
  have mv: ∀ {M:Nat -> Prop} (d:DV) (u:Value),AK M w d (ρ++[p]) u -> AK M w (Mk k S.h.length d) (ρ++[p]) u:=fun {M} d u hd=>by
   unfold Mk;split
   ·rename_i k1 m o n;split
    ·rename_i e;obtain ⟨q,cap,Ov,r⟩:=hd;subst e;have:q=p:=zCq (Ov.symm.trans (EZ _ _ hp));subst this;exact ⟨q,cap,hq,r⟩
    ·exact hd
   ·rename_i k1 m o n;split
    ·rename_i e;obtain ⟨q,a0,cap,Ov,r⟩:=hd;subst e;have:q=p:=zCq (Ov.symm.trans (EZ _ _ hp));subst this;exact ⟨q,a0,cap,hq,r⟩
    ·exact hd
   ·exact hd
  have R1:=g1.mapCells (g:=Mk k S.h.length) fun d u=>mv d u
  have hM: ∀ b,MS N ((S.h.set k none++[some (DO.ints l)]).map (mapOb (Mk k S.h.length))) (ρ++[p]) b -> MS N (S.h.set k none++[some (DO.ints l)]) (ρ++[p]) b:=fun b hb=>hb.imp id MO.mapOb.1
  have O2:BV (MS N (S.h.set k none++[some (DO.ints l)]) (ρ++[p])) w (ρ++[p]) (MS N ((S.h.set k none++[some (DO.ints l)]).map (mapOb (Mk k S.h.length))) (ρ++[p])) w (ρ++[p]):=⟨fun _ _ _ _=>rfl,fun b hb=>.inl (hM b hb),fun _ _ h=>h⟩;exact ⟨ρ++[p],⟨R1,((R.fr.out O).map fun d u=>mv d u).out O2⟩,⟨g2.upd,fun b hb=>g2.grow b (MO.mapOb.1 hb)⟩,fun _ _ _ h=>Dz h⟩
 ·cases h
end
end Go.Proofs.YtgkhhfnhacibcaaGreatDoor
namespace Go.Proofs.YtgkhhfnhacibcaaGreatDoor
abbrev zDw:=@Nat.le_of_ble_eq_true
end Go.Proofs.YtgkhhfnhacibcaaGreatDoor
namespace Go.Proofs.YtgkhhfnhacibcaaGreatDoor
open Go.RowKit
def C1 (σ:List Nat) (b k:Nat):Nat:=if k<σ.length then σ.getD k 0 else b+(k-σ.length)
def up (σ:List Nat) (b:Nat):DV -> DV
 | .ref k j=>.ref (C1 σ b k) j
 | .msl k m o n=>.msl (C1 σ b k) m o n
 | .mse k m o n=>.mse (C1 σ b k) m o n
 | .mri k i=>.mri (C1 σ b k) i
 | .mp k m i j=>.mp (C1 σ b k) m i j
 | .it k=>.it (C1 σ b k)
 | .agg m f=>.agg m (GU m fun j=>up σ b (f j))
 | .tup m f=>.tup m (GU m fun j=>up σ b (f j))
 | .fn g m c=>.fn g m (GU m fun j=>up σ b (c j))
 | d=>d
def Cg (σ:List Nat) (b:Nat):Option DO -> Option DO
 | some (.cells l)=>some (.cells (l.map (up σ b)))
 | o=>o
def Cr (H:DH) (σ:List Nat) (h':DH):DH:=((List.range H.length).map fun k=>match C9 σ k with
 | some i=>Cg σ H.length (h'.getD i none)
 | none=>H.getD k none)++(h'.drop σ.length).map (Cg σ H.length)
theorem OK {σ:List Nat} (hn:σ.Nodup) {i k:Nat} (h:σ[i]? =some k):C9 σ k=some i:=by
 induction σ generalizing i with
 | nil=>simp at h
 | cons x σ ih=>
  unfold C9;cases i with
  | zero=>
   have:x=k:=by simpa using h
   rw [zB3 this]
  | succ i=>
   have h':σ[i]? =some k:=by simpa using h
   have AY:x≠k:=by
    rintro rfl;exact (zFA.1 hn).1 (zDN h')
   rw [zCt AY,ih (zFA.1 hn).2 h'];rfl
theorem Nv {σ:List Nat} {b:Nat} {x:Option DO} {o:DO} (h:Cg σ b x=some o): ∃ o0,x=some o0:=by
 cases x with
 | none=>cases h
 | some o0=>exact ⟨o0,rfl⟩
section
variable {P:Program} {Γ:A1}
theorem cj {M M':Nat -> Prop} {w:World} {σ:List Nat} {b:Nat} {ρ ρ':List AJ} (hM: ∀ b,M' b -> M b) (hρ: ∀ (k:Nat) (p:AJ),ρ[k]? =some p -> ρ'[C1 σ b k]? =some p): ∀ (d:DV) {v:Value},AK M w d ρ v -> AK M' w (up σ b d) ρ' v:=by
 have low: ∀ (d:DV) {v:Value},AK M w d [] v -> AK M' w d [] v:=fun d v h=>h.out d (Db hM [])
 intro d
 induction d with
 | any=>intro v _;trivial
 | nils=>intro v h;exact h
 | int k n=>intro v h;exact h
 | bool b=>intro v h;exact h
 | str s=>intro v h;exact h
 | ints l=>intro v h;exact low (.ints l) h
 | bools l=>intro v h;exact low (.bools l) h
 | sl m n f _=>intro v h;exact low (.sl m n f) h
 | fp m f _=>intro v h;exact low (.fp m f) h
 | agg m f ih=>
  rintro v ⟨cs,e,hs,h⟩;exact ⟨cs,e,hs,fun j hj=>let ⟨u,h1,h2⟩:=h j hj;⟨u,h1,IA hj (ih j h2)⟩⟩
 | tup m f ih=>
  rintro v ⟨cs,e,hs,h⟩;exact ⟨cs,e,hs,fun j hj=>let ⟨u,h1,h2⟩:=h j hj;⟨u,h1,IA hj (ih j h2)⟩⟩
 | fn g m c ih=>
  rintro v ⟨cs,e,hs,h⟩;exact ⟨cs,e,hs,fun j hj=>let ⟨u,h1,h2⟩:=h j hj;⟨u,h1,IA hj (ih j h2)⟩⟩
 | ref k j=>rintro v ⟨p,hp,r⟩;exact ⟨p,hρ k p hp,r⟩
 | msl k m o n=>rintro v ⟨p,cap,hp,r⟩;exact ⟨p,cap,hρ k p hp,r⟩
 | mp k m i j=>rintro v ⟨p,hp,r⟩;exact ⟨p,hρ k p hp,r⟩
 | it k=>rintro v ⟨p,hp,r⟩;exact ⟨p,hρ k p hp,r⟩
 | cst u=>intro v h;exact h
 | yl l=>intro v h;exact h
 | mse k m o n=>rintro v ⟨p,a,cap,hp,r⟩;exact ⟨p,a,cap,hρ k p hp,r⟩
 | mri k i=>rintro v ⟨p,vs,hp,r⟩;exact ⟨p,vs,hρ k p hp,r⟩
theorem a6 {M M':Nat -> Prop} {w:World} {σ:List Nat} {b:Nat} {ρ ρ':List AJ} (hM: ∀ b,M' b -> M b) (hρ: ∀ (k:Nat) (p:AJ),ρ[C1 σ b k]? =some p -> ρ'[k]? =some p): ∀ (d:DV) {v:Value},AK M w (up σ b d) ρ v -> AK M' w d ρ' v:=by
 have low: ∀ (d:DV) {v:Value},AK M w d [] v -> AK M' w d [] v:=fun d v h=>h.out d (Db hM [])
 have XO: ∀ {m j:Nat} {f:Nat -> DV} {u:Value},j<m -> AK M w (GU m f j) ρ u -> AK M w (f j) ρ u:=fun hj h=>by rw [Tg hj] at h;exact h
 intro d
 induction d with
 | any=>intro v _;trivial
 | nils=>intro v h;exact h
 | int k n=>intro v h;exact h
 | bool b=>intro v h;exact h
 | str s=>intro v h;exact h
 | ints l=>intro v h;exact low (.ints l) h
 | bools l=>intro v h;exact low (.bools l) h
 | sl m n f _=>intro v h;exact low (.sl m n f) h
 | fp m f _=>intro v h;exact low (.fp m f) h
 | agg m f ih=>
  rintro v ⟨cs,e,hs,h⟩;exact ⟨cs,e,hs,fun j hj=>let ⟨u,h1,h2⟩:=h j hj;⟨u,h1,ih j (XO hj h2)⟩⟩
 | tup m f ih=>
  rintro v ⟨cs,e,hs,h⟩;exact ⟨cs,e,hs,fun j hj=>let ⟨u,h1,h2⟩:=h j hj;⟨u,h1,ih j (XO hj h2)⟩⟩
 | fn g m c ih=>
  rintro v ⟨cs,e,hs,h⟩;exact ⟨cs,e,hs,fun j hj=>let ⟨u,h1,h2⟩:=h j hj;⟨u,h1,ih j (XO hj h2)⟩⟩
 | ref k j=>rintro v ⟨p,hp,r⟩;exact ⟨p,hρ k p hp,r⟩
 | msl k m o n=>rintro v ⟨p,cap,hp,r⟩;exact ⟨p,cap,hρ k p hp,r⟩
 | mp k m i j=>rintro v ⟨p,hp,r⟩;exact ⟨p,hρ k p hp,r⟩
 | it k=>rintro v ⟨p,hp,r⟩;exact ⟨p,hρ k p hp,r⟩
 | cst u=>intro v h;exact h
 | yl l=>intro v h;exact h
 | mse k m o n=>rintro v ⟨p,a,cap,hp,r⟩;exact ⟨p,a,cap,hρ k p hp,r⟩
 | mri k i=>rintro v ⟨p,vs,hp,r⟩;exact ⟨p,vs,hρ k p hp,r⟩
theorem nU {M M':Nat -> Prop} {w:World} {σ:List Nat} {b:Nat} {ρ ρ':List AJ} {p:AJ} (hM: ∀ b,M' b -> M b) (hρ: ∀ (k:Nat) (p:AJ),ρ[k]? =some p -> ρ'[C1 σ b k]? =some p) {o o':DO} (ho:Cg σ b (some o)=some o') (h:DU P M w ρ p o):DU P M' w ρ' p o':=by
 cases o with
 | cells l=>
  cases ho
  show Ab w p (l.map (up σ b)).length _
  rw [zDe];refine Ab.out h rfl fun j u hj hu=>?_
  have:(l.map (up σ b)).getD j .any=up σ b (l.getD j .any):=by simp [hj]
  rw [this];exact cj hM hρ _ hu
 | ints l=>cases ho;exact Ab.out h rfl fun j u _ hu=>hu
 | bools l=>cases ho;exact Ab.out h rfl fun j u _ hu=>hu
 | arr m n f=>cases ho;exact Ab.out h rfl fun j u _ hu=>AK.out _ (Db hM []) hu
 | iter encs=>
  cases ho;obtain ⟨gf,lb,Rd,q1,q2,q3,q4⟩:=h;exact ⟨gf,lb,Rd,q1,q2,fun b hb=>⟨fun hm=>(q3 b hb).1 (hM b hm),(q3 b hb).2⟩,q4⟩
 | mo x=>cases ho;exact h
theorem kw {M M':Nat -> Prop} {w:World} {σ:List Nat} {b:Nat} {ρ ρ':List AJ} {p:AJ} (hM: ∀ b,M' b -> M b) (hρ: ∀ (k:Nat) (p:AJ),ρ[C1 σ b k]? =some p -> ρ'[k]? =some p) {o o':DO} (ho:Cg σ b (some o)=some o') (h:DU P M w ρ p o'):DU P M' w ρ' p o:=by
 cases o with
 | cells l=>
  cases ho;have h:Ab w p (l.map (up σ b)).length _:=h;rw [zDe] at h;refine Ab.out h rfl fun j u hj hu=>?_
  have:(l.map (up σ b)).getD j .any=up σ b (l.getD j .any):=by simp [hj]
  rw [this] at hu;exact a6 hM hρ _ hu
 | ints l=>cases ho;exact Ab.out h rfl fun j u _ hu=>hu
 | bools l=>cases ho;exact Ab.out h rfl fun j u _ hu=>hu
 | arr m n f=>cases ho;exact Ab.out h rfl fun j u _ hu=>AK.out _ (Db hM []) hu
 | iter encs=>
  cases ho;obtain ⟨gf,lb,Rd,q1,q2,q3,q4⟩:=h;exact ⟨gf,lb,Rd,q1,q2,fun b hb=>⟨fun hm=>(q3 b hb).1 (hM b hm),(q3 b hb).2⟩,q4⟩
 | mo x=>cases ho;exact h
theorem ES.embedX {f:Nat} {ds:List DV} {h:DH} {d:DV} {h':DH} {ext:Bool} (DS:ES P Γ f ds h d h' ext) (σ:List Nat) (H:DH) (hn:σ.Nodup) (AL: ∀ k∈σ,k<H.length) (hl:σ.length=h.length) (Dv:h.length<=h'.length)
 (hh:(σ.map fun k=>H.getD k none)=h.map (Cg σ H.length)):(∃ fn,P.funcs[f]? =some fn/\ fn.name≠ "runtime.NumGoroutine" /\ fn.body.isSome=true)/\
 ∀ (N:Nat -> Prop) (ρ:List AJ) (w:World) (args:Array Value),BP P Γ N H ρ w -> CA (MS N H ρ) w ρ (ds.map (up σ H.length)) args ->
  Calls P f args w fun e w'=>∃ v,e= .returned v/\ DJ P Γ N H ρ w ext (up σ H.length d) (Cr H σ h') v w'/\ AO (fun b=>∃ i o p,i∈σ/\ H[i]? =some (some o)/\ ρ[i]? =some p/\ p.foot b) w w':=by
 refine ⟨DS.1,fun N ρ w args HR Ce=>?_⟩;obtain ⟨ρ0,Rj⟩: ∃ ρ0,ρ0=σ.map fun k=>ρ.getD k Yf:=⟨_,rfl⟩
 have RQ:ρ0.length=σ.length:=by rw [Rj];simp
 have Er: ∀ {i k:Nat},σ[i]? =some k -> ρ0[i]? =ρ[k]? :=fun {i k} hk=>by
  have Cv:k<ρ.length:=by rw [HR.len];exact AL k (zDN hk)
  rw [Rj,zC1,hk];simp [Cv]
 have Jo: ∀ {i:Nat},i<σ.length -> ∃ k,σ[i]? =some k/\ C1 σ H.length i=k:=fun {i} hi=>by
  refine ⟨σ[i],by simp [hi],?_⟩;unfold C1;rw [zB3 hi];simp [hi]
 have GF: ∀ {i:Nat} {o:DO},h[i]? =some (some o) -> ∃ k o',σ[i]? =some k/\ H[k]? =some (some o')/\ Cg σ H.length (some o)=some o':=fun {i o} hi=>by
  have Cp:i<σ.length:=by rw [hl];exact (zCr.1 hi).1
  obtain ⟨k,hk,_⟩:=Jo Cp;have e:=congrArg (·[i]?) hh;simp only [zC1,hk,hi,zDI] at e;have Br:=AL k (zDN hk);have e:H.getD k none=Cg σ H.length (some o):=zCq e;have e2: ∃ o',Cg σ H.length (some o)=some o':=by cases o <;> exact ⟨_,rfl⟩
  obtain ⟨o',G9⟩:=e2;refine ⟨k,o',hk,?_,G9⟩;rw [G9] at e;rw [zAe Br];rw [u8,zAe Br] at e;exact congrArg some e
 have gT: ∀ {i k:Nat} {o':DO},σ[i]? =some k -> H[k]? =some (some o') -> ∃ o,h[i]? =some (some o)/\ Cg σ H.length (some o)=some o':=fun {i k o'} hk ho=>by
  have Cp:i<h.length:=by rw [←hl];exact (zCr.1 hk).1
  have e:=congrArg (·[i]?) hh;simp only [zC1,hk,zAe Cp,zDI] at e;have e:H.getD k none=Cg σ H.length h[i]:=zCq e;rw [V1 ho] at e;obtain ⟨o0,e0⟩:=Nv e.symm;exact ⟨o0,by rw [zAe Cp,e0],by rw [e0] at e;exact e.symm⟩
 obtain ⟨N0,GP⟩: ∃ N0:Nat -> Prop,N0=fun b=>N b∨∃ k o p,C9 σ k=none/\ H[k]? =some (some o)/\ ρ[k]? =some p/\ p.foot b:=⟨_,rfl⟩
 have Hg: ∀ b,MO h ρ0 b -> MO H ρ b:=by
  rintro b ⟨i,o,p,g1,g2,g3⟩;obtain ⟨k,o',e1,e2,_⟩:=GF g1;exact ⟨k,o',p,e2,(Er e1).symm.trans g2,g3⟩
 have Ml: ∀ b,MS N0 h ρ0 b -> MS N H ρ b:=by
  rintro b (hb | hb)
  ·rw [GP] at hb;rcases hb with hb | ⟨k,o,p,_,g1,g2,g3⟩
   ·exact .inl hb
   ·exact .inr ⟨k,o,p,g1,g2,g3⟩
  ·exact .inr (Hg b hb)
 have ms1: ∀ b,MS N H ρ b -> MS N0 h ρ0 b:=by
  rintro b (hb | ⟨k,o,p,g1,g2,g3⟩)
  ·exact .inl (by rw [GP];exact .inl hb)
  ·cases hk:C9 σ k with
   | none=>exact .inl (by rw [GP];exact .inr ⟨k,o,p,hk,g1,g2,g3⟩)
   | some i=>
    have hi:=I5 hk;obtain ⟨o0,e1,_⟩:=gT hi g1;exact .inr ⟨i,o0,p,e1,(Er hi).trans g2,g3⟩
 have dn: ∀ (k:Nat) (p:AJ),ρ[C1 σ H.length k]? =some p -> ρ0[k]? =some p:=fun k p hp=>by
  by_cases hk:k<σ.length
  ·obtain ⟨k',e1,e2⟩:=Jo hk;rw [e2] at hp;exact (Er e1).trans hp
  ·unfold C1 at hp;rw [zCt hk] at hp;have:=(zCr.1 hp).1;rw [HR.len] at this;omega
 have foreign: ∀ {b:Nat},N0 b -> ¬ MO h ρ0 b:=by
  rintro b hb ⟨i,o,p,g1,g2,g3⟩;obtain ⟨k,o',e1,e2,_⟩:=GF g1;have hp:=(Er e1).symm.trans g2;rw [GP] at hb;rcases hb with hb | ⟨k',o2,p2,q1,q2,q3,q4⟩
  ·exact (HR.cel k o' p b e2 hp g3).2.1 hb
  ·refine HR.dis k k' o' o2 p p2 b ?_ e2 q2 hp q3 g3 q4;rintro rfl;rw [OK hn e1] at q1;cases q1
 have H0:BP P Γ N0 h ρ0 w:=by
  refine ⟨by rw [RQ,hl],fun i o hi=>?_,fun i o p b g1 g2 g3=>?_,fun i i' o1 o2 p1 p2 b AY g1 g2 g3 g4 g5 g6=>?_,fun b hb=>HR.lt2 (Ml b (.inl hb)),HR.gi⟩
  ·obtain ⟨k,o',e1,e2,e3⟩:=GF hi;obtain ⟨p,hp,hr⟩:=HR.obj k o' e2;exact ⟨p,(Er e1).trans hp,kw Ml dn e3 hr⟩
  ·obtain ⟨k,o',e1,e2,e3⟩:=GF g1;obtain ⟨q1,q2,q3⟩:=HR.cel k o' p b e2 ((Er e1).symm.trans g2) g3;exact ⟨q1,fun hb=>foreign hb ⟨i,o,p,g1,g2,g3⟩,q3⟩
  ·obtain ⟨k,o',e1,e2,e3⟩:=GF g1;obtain ⟨k',Ya,PS,SY,e3'⟩:=GF g2;refine HR.dis k k' o' Ya p1 p2 b ?_ e2 SY ((Er e1).symm.trans g3) ((Er PS).symm.trans g4) g5 g6;rintro rfl;have a1:=OK hn e1;have a2:=OK hn PS;exact AY (zCq (a1.symm.trans a2))
 refine (DS.2 N0 ρ0 w args H0 ⟨by rw [←Ce.1];simp,fun i hi=>?_⟩).mono ?_
 ·have:=Ce.2 i (by simpa using hi);have e:(ds.map (up σ H.length)).getD i .any=up σ H.length (ds.getD i .any):=by simp [hi]
  rw [e] at this;exact a6 Ml dn _ this
 ·rintro e w' ⟨v,rfl,⟨⟨ρ1,g1,g2,g3,g4⟩,g5⟩⟩;have l1:ρ1.length=h'.length:=g1.len;obtain ⟨ρ',GJ⟩: ∃ ρ',ρ'=ρ++ρ1.drop σ.length:=⟨_,rfl⟩
  have TD: ∀ {i k:Nat},σ[i]? =some k -> ρ1[i]? =ρ[k]? :=fun {i k} hk=>by
   have Cp:i<ρ0.length:=by rw [RQ];exact (zCr.1 hk).1
   have:=g4 i ρ0[i] (by simp [Cp]);rw [this,←Er hk];simp [Cp]
  have FF: ∀ {k:Nat},k<H.length -> ρ'[k]? =ρ[k]? :=fun {k} hk=>by rw [GJ,zC8 (by rw [HR.len];exact hk)]
  have Pw: ∀ (k:Nat) (p:AJ),ρ1[k]? =some p -> ρ'[C1 σ H.length k]? =some p:=fun k p hp=>by
   by_cases hk:k<σ.length
   ·obtain ⟨k',e1,e2⟩:=Jo hk;rw [e2,FF (AL k' (zDN e1)),←TD e1];exact hp
   ·unfold C1;rw [zCt hk,GJ,zDJ (by rw [HR.len];omega),zEA,HR.len];rw [show σ.length+(H.length+(k-σ.length)-H.length)=k by omega];exact hp
  have Yy:(Cr H σ h').length=H.length+(h'.length-σ.length):=by simp [Cr]
  have GV: ∀ {k:Nat} {o':DO},(Cr H σ h')[k]? =some (some o') -> (k<H.length/\ C9 σ k=none/\ H[k]? =some (some o')/\ ρ'[k]? =ρ[k]?)∨∃ i o,h'[i]? =some (some o)/\ Cg σ H.length (some o)=some o'/\ ρ'[k]? =ρ1[i]? /\ k=C1 σ H.length i:=by
   intro k o' hk
   by_cases Br:k<H.length
   ·unfold Cr at hk;rw [zC8 (by simpa using Br),zC1,zEO Br] at hk;simp only [zDI,zDm] at hk;split at hk
    ·rename_i i hi;have KM:=I5 hi;obtain ⟨o0,e0⟩:=Nv hk;have Cp:i<h'.length:=zCu (by rw [←hl];exact (zCr.1 KM).1) Dv;rw [e0] at hk;refine .inr ⟨i,o0,?_,hk,?_,?_⟩
     ·rw [zAe Cp];rw [u8,zAe Cp] at e0;exact congrArg some e0
     ·rw [FF Br,TD KM]
     ·obtain ⟨k2,e1,e2⟩:=Jo (zCr.1 KM).1;rw [e2];exact zCq (KM.symm.trans e1)
    ·rename_i hi;refine .inl ⟨Br,hi,?_,FF Br⟩;rw [zAe Br];rw [u8,zAe Br] at hk;exact congrArg some hk
   ·unfold Cr at hk;rw [zDJ (by simp;omega),zC1,zEA] at hk;simp only [zDe,zEM] at hk;cases hx:h'[σ.length+(k-H.length)]? with
    | none=>rw [hx] at hk;cases hk
    | some x=>
     rw [hx] at hk;have hk:Cg σ H.length x=some o':=zCq hk;obtain ⟨o0,e0⟩:=Nv hk;subst e0;refine .inr ⟨σ.length+(k-H.length),o0,hx,hk,?_,?_⟩
     ·rw [GJ,zDJ (by rw [HR.len];omega),zEA,HR.len]
     ·unfold C1;rw [zCt (by omega)];omega
  have back: ∀ {k:Nat} {o:DO},C9 σ k=none -> H[k]? =some (some o) -> (Cr H σ h')[k]? =some (some o):=by
   intro k o hk ho;have Br:=(zCr.1 ho).1;unfold Cr;rw [zC8 (by simpa using Br),zC1,zEO Br];simp only [zDI,hk,V1 ho]
  have gu: ∀ b,MS N (Cr H σ h') ρ' b -> MS N0 h' ρ1 b:=by
   rintro b (hb | ⟨k,o',p,q1,q2,q3⟩)
   ·exact .inl (by rw [GP];exact .inl hb)
   ·rcases GV q1 with ⟨a1,a2,a3,a4⟩ | ⟨i,o,a1,a2,a3,a4⟩
    ·exact .inl (by rw [GP];exact .inr ⟨k,o',p,a2,a3,a4.symm.trans q2,q3⟩)
    ·exact .inr ⟨i,o,p,a1,a3.symm.trans q2,q3⟩
  have grow: ∀ b,MO (Cr H σ h') ρ' b -> MO H ρ b∨w.heap.size<=b:=by
   rintro b ⟨k,o',p,q1,q2,q3⟩;rcases GV q1 with ⟨a1,a2,a3,a4⟩ | ⟨i,o,a1,a2,a3,a4⟩
   ·exact .inl ⟨k,o',p,a3,a4.symm.trans q2,q3⟩
   ·exact (g3.grow b ⟨i,o,p,a1,a3.symm.trans q2,q3⟩).imp (Hg b) id
  have pl: ∀ (k:Nat) (p:AJ),ρ[k]? =some p -> ρ'[k]? =some p:=fun k p hp=>by
   rw [GJ,zC8 (zCr.1 hp).1];exact hp
  have O:BV (MS N H ρ) w ρ (MS N (Cr H σ h') ρ') w' ρ':=
   ⟨fun b hb hm _=>g3.upd.block b hb fun hx=>hm (.inr (Hg b hx)),fun b hb=>hb.elim (fun hb=>.inl (.inl hb)) (fun hb=>(grow b hb).imp .inr id),pl⟩
  refine ⟨v,rfl,⟨⟨ρ',⟨?_,fun k o' hk=>?_,fun k o' p b q1 q2 q3=>?_,fun k k' o1 o2 p1 p2 b AY q1 q2 q3 q4 q5 q6=>?_,fun b hb=>⟨zCu (HR.nlt b hb).1 g3.upd.size,(HR.nlt b hb).2⟩,g1.gi⟩,cj gu Pw _ g2,⟨g3.upd.mono fun b _ hb=>Hg b hb,grow⟩,pl⟩,g5⟩,g3.upd.mono fun b _ ⟨i,o,p,q1,q2,q3⟩=>?_⟩
  ·rw [Yy,GJ];simp [HR.len,l1]
  ·rcases GV hk with ⟨a1,a2,a3,a4⟩ | ⟨i,o,a1,a2,a3,a4⟩
   ·obtain ⟨p,hp,hr⟩:=HR.obj k o' a3;refine ⟨p,a4.trans hp,hr.out O g3.upd (fun b hb=>.inr (Hg b hb)) fun b _ hf hs=>?_⟩;exact foreign (by rw [GP];exact .inr ⟨k,o',p,a2,a3,hp,hf⟩) hs
   ·obtain ⟨p,hp,hr⟩:=g1.obj i o a1;exact ⟨p,a3.trans hp,nU gu Pw a2 hr⟩
  ·rcases GV q1 with ⟨a1,a2,a3,a4⟩ | ⟨i,o,a1,a2,a3,a4⟩
   ·have hp:=a4.symm.trans q2;obtain ⟨c1,c2,c,t,z,c3⟩:=HR.cel k o' p b a3 hp q3;refine ⟨c1,c2,c,t,z,(g3.upd.block b (zCl.1 c3).1 fun hx=>?_).trans c3⟩;exact foreign (by rw [GP];exact .inr ⟨k,o',p,a2,a3,hp,q3⟩) hx
   ·obtain ⟨c1,c2,c3⟩:=g1.cel i o p b a1 (a3.symm.trans q2) q3;exact ⟨c1,fun hb=>c2 (by rw [GP];exact .inl hb),c3⟩
  ·rcases GV q1 with ⟨a1,a2,a3,a4⟩ | ⟨i,o,a1,a2,a3,a4⟩
   ·rcases GV q2 with ⟨c1,c2,c3,c4⟩ | ⟨i',o',c1,c2,c3,c4⟩
    ·exact HR.dis k k' o1 o2 p1 p2 b AY a3 c3 (a4.symm.trans q3) (c4.symm.trans q4) q5 q6
    ·exact (g1.cel i' o' p2 b c1 (c3.symm.trans q4) q6).2.1 (by rw [GP];exact .inr ⟨k,o1,p1,a2,a3,a4.symm.trans q3,q5⟩)
   ·rcases GV q2 with ⟨c1,c2,c3,c4⟩ | ⟨i',o',c1,c2,c3,c4⟩
    ·exact (g1.cel i o p1 b a1 (a3.symm.trans q3) q5).2.1 (by rw [GP];exact .inr ⟨k',o2,p2,c2,c3,c4.symm.trans q4,q6⟩)
    ·refine g1.dis i i' o o' p1 p2 b ?_ a1 c1 (a3.symm.trans q3) (c3.symm.trans q4) q5 q6;rintro rfl;exact AY (a4.trans c4.symm)
  ·obtain ⟨k,o',e1,e2,_⟩:=GF q1;exact ⟨k,o',p,zDN e1,e2,(Er e1).symm.trans q2,q3⟩
theorem ES.embed {f:Nat} {ds:List DV} {h:DH} {d:DV} {h':DH} {ext:Bool} (DS:ES P Γ f ds h d h' ext) (σ:List Nat) (H:DH) (hn:σ.Nodup) (AL: ∀ k∈σ,k<H.length) (hl:σ.length=h.length) (Dv:h.length<=h'.length)
 (hh:(σ.map fun k=>H.getD k none)=h.map (Cg σ H.length)):ES P Γ f (ds.map (up σ H.length)) H (up σ H.length d) (Cr H σ h') ext:=
 let ⟨h1,h2⟩:=DS.embedX σ H hn AL hl Dv hh
 ⟨h1,fun N ρ w args HR ha=>(h2 N ρ w args HR ha).mono fun _ _ ⟨v,e,g,_⟩=>⟨v,e,g⟩⟩
def Ik (σ:List Nat) (n l l':Nat):Bool:=decide σ.Nodup&&σ.all (fun k=>decide (k<n))&&decide (σ.length=l)&&decide (l<=l')
theorem ES.embedB {f:Nat} {ds:List DV} {h:DH} {d:DV} {h':DH} {ext:Bool} (DS:ES P Γ f ds h d h' ext) (σ:List Nat) (H:DH) (hb:Ik σ H.length h.length h'.length=true) (hh:(σ.map fun k=>H.getD k none)=h.map (Cg σ H.length))
 {EL:List DV} {d1:DV} {H1:DH} (e:(ds.map (up σ H.length),up σ H.length d,Cr H σ h')=(EL,d1,H1)):ES P Γ f EL H d1 H1 ext:=by
 simp only [Ik,zCp,zDH,zCs] at hb;cases e;exact DS.embed σ H hb.1.1.1 (fun k hk=>hb.1.1.2 k hk) hb.1.2 hb.2 hh
theorem ES.embedU {f:Nat} {ds:List DV} {h:DH} {d:DV} {h':DH} {ext:Bool} (DS:ES P Γ f ds h d h' ext) (σ:List Nat) (H:DH) (k:Nat) (hb:Ik σ H.length h.length h'.length=true) (hk:σ.all (fun j=>Nat.ble k j)=true) (hh:(σ.map fun k=>H.getD k none)=h.map (Cg σ H.length)):Np P Γ f (ds.map (up σ H.length)) H (up σ H.length d) (Cr H σ h') k:=by
 simp only [Ik,zCp,zDH,zCs] at hb;obtain ⟨h1,h2⟩:=DS.embedX σ H hb.1.1.1 (fun k hk=>hb.1.1.2 k hk) hb.1.2 hb.2 hh;refine ⟨h1,fun N ρ w args HR ha=>(h2 N ρ w args HR ha).mono ?_⟩;rintro e w' ⟨v,e,⟨g1,g2⟩,hu⟩;exact ⟨v,e,⟨g1,fun h=>by cases h⟩,hu.mono fun b _ ⟨i,o,p,q1,q2⟩=>⟨i,o,p,zDw (zCs.1 hk i q1),q2⟩⟩
end
end Go.Proofs.YtgkhhfnhacibcaaGreatDoor
namespace Go.Proofs.YtgkhhfnhacibcaaGreatDoor
abbrev zDD:=@List.drop_eq_getElem_cons
abbrev zEE:=@of_decide_eq_true
end Go.Proofs.YtgkhhfnhacibcaaGreatDoor
namespace Go.Proofs.YtgkhhfnhacibcaaGreatDoor
open Go.RowKit
section
variable {P:Program} {Γ:A1}
theorem BP.foreign {N1 N2 G:Nat -> Prop} {h:DH} {ρ:List AJ} {A B:World} (H:BP P Γ N1 h ρ A) (hu:AO G A B) (hG: ∀ b,G b -> N1 b/\ Γ.ng<=b) (hN: ∀ b,N2 b -> N1 b∨A.heap.size<=b) (hb: ∀ b,N2 b -> b<B.heap.size/\ Γ.ng<=b):BP P Γ N2 h ρ B:=by
 have O:BV (MS N1 h ρ) A ρ (MS N2 h ρ) B ρ:=⟨fun b AL hm _=>hu.block b AL fun hx=>hm (.inl (hG b hx).1),fun b hb=>hb.elim (fun h=>(hN b h).imp .inl id) (fun h=>.inl (.inr h)),fun _ _ h=>h⟩;refine ⟨H.len,fun k o hk=>?_,fun k o p b h1 h2 h3=>?_,H.dis,hb,Γ.st _ _ H.gi (hu.mono fun i _ hx=>(hG i hx).2)⟩
 ·obtain ⟨p,hp,hr⟩:=H.obj k o hk;exact ⟨p,hp,hr.out O hu (fun b hb=>.inl (hG b hb).1) fun b _ hf hs=>(H.cel k o p b hk hp hf).2.1 (hG b hs).1⟩
 ·obtain ⟨c1,c2,c,t,z,c3⟩:=H.cel k o p b h1 h2 h3;have AL:=(zCl.1 c3).1;exact ⟨c1,fun hn=>(hN b hn).elim c2 (by omega),c,t,z,(hu.block b AL fun hx=>c2 (hG b hx).1).trans c3⟩
theorem BV.foreign {N1 N2 G:Nat -> Prop} {h:DH} {ρ:List AJ} {A B:World} (hu:AO G A B) (hG: ∀ b,G b -> N1 b/\ Γ.ng<=b) (hN: ∀ b,N2 b -> N1 b∨A.heap.size<=b):BV (MS N1 h ρ) A ρ (MS N2 h ρ) B ρ:=
 ⟨fun b AL hm _=>hu.block b AL fun hx=>hm (.inl (hG b hx).1),fun b hb=>hb.elim (fun h=>(hN b h).imp .inl id) (fun h=>.inl (.inr h)),fun _ _ h=>h⟩
def Jp (fr:List DV) (ps:List Tmp) (x:List Value):List DV:=(ps.zip x).foldl (fun t q=>t.set q.1 (FZ q.2)) fr
theorem eF {M:Nat -> Prop} {w:World} {ρ:List AJ}: ∀ (l:List (Tmp×Value)) {fr:List DV} {t:Array Value},CA M w ρ fr t -> CA M w ρ (l.foldl (fun t q=>t.set q.1 (FZ q.2)) fr) (l.foldl (fun t (q:Tmp×Value)=>t.setIfInBounds q.1 q.2) t)
 | [],_,_,h=>h
 | q::l,_,_,h=>eF l (h.set q.1 (RA _))
def GX (K:Nat):DV -> Bool
 | .ref k _=>decide (k<K)
 | .msl k _ _ _=>decide (k<K)
 | .mse k _ _ _=>decide (k<K)
 | .mri k _=>decide (k<K)
 | .mp k _ _ _=>decide (k<K)
 | .it k=>decide (k<K)
 | .agg m f=>(List.range m).all fun j=>GX K (f j)
 | .tup m f=>(List.range m).all fun j=>GX K (f j)
 | .fn _ m f=>(List.range m).all fun j=>GX K (f j)
 | _=>true
theorem PC {α:Type} {l:List α} {K k:Nat} {x:α} (hk:k<K) (h:l[k]? =some x):(l.take K)[k]? =some x:=by rw [List.getElem?_take,zB3 hk];exact h
theorem AK.take {M:Nat -> Prop} {w:World} {K:Nat}: ∀ (d:DV) {ρ:List AJ} {v:Value},GX K d=true -> AK M w d ρ v -> AK M w d (ρ.take K) v:=by
 intro d
 induction d with
 | ref k j=>rintro ρ v hb ⟨p,h,e⟩;exact ⟨p,PC (zEE hb) h,e⟩
 | msl k m off n=>rintro ρ v hb ⟨p,cap,h,e⟩;exact ⟨p,cap,PC (zEE hb) h,e⟩
 | mp k m i j=>rintro ρ v hb ⟨p,h,e⟩;exact ⟨p,PC (zEE hb) h,e⟩
 | it k=>rintro ρ v hb ⟨p,h,e⟩;exact ⟨p,PC (zEE hb) h,e⟩
 | agg m f ih=>
  rintro ρ v hb ⟨cs,e,hs,h⟩;exact ⟨cs,e,hs,fun j hj=>let ⟨u,h1,h2⟩:=h j hj;⟨u,h1,ih j (zCs.1 hb j (zCy.2 hj)) h2⟩⟩
 | tup m f ih=>
  rintro ρ v hb ⟨cs,e,hs,h⟩;exact ⟨cs,e,hs,fun j hj=>let ⟨u,h1,h2⟩:=h j hj;⟨u,h1,ih j (zCs.1 hb j (zCy.2 hj)) h2⟩⟩
 | fn g m f ih=>
  rintro ρ v hb ⟨cs,e,hs,h⟩;exact ⟨cs,e,hs,fun j hj=>let ⟨u,h1,h2⟩:=h j hj;⟨u,h1,ih j (zCs.1 hb j (zCy.2 hj)) h2⟩⟩
 | yl l=>rintro ρ v _ h;exact h
 | cst u=>rintro ρ v _ h;exact h
 | mse k m off n=>rintro ρ v hb ⟨p,a,cap,h,e⟩;exact ⟨p,a,cap,PC (zEE hb) h,e⟩
 | mri k i=>rintro ρ v hb ⟨p,vs,h,e⟩;exact ⟨p,vs,PC (zEE hb) h,e⟩
 | any=>rintro ρ v _ h;trivial
 | nils=>rintro ρ v _ h;exact h
 | int k n=>rintro ρ v _ h;exact h
 | bool b=>rintro ρ v _ h;exact h
 | str s=>rintro ρ v _ h;exact h
 | ints l=>rintro ρ v _ h;exact h
 | bools l=>rintro ρ v _ h;exact h
 | sl m n f=>rintro ρ v _ h;exact h
 | fp m f=>rintro ρ v _ h;exact h
theorem CA.take {M:Nat -> Prop} {w:World} {K:Nat} {ρ:List AJ} {fr:List DV} {t:Array Value} (h:CA M w ρ fr t) (hb:fr.all (GX K)=true):CA M w (ρ.take K) fr t:=by
 refine ⟨h.1,fun i hi=>AK.take _ ?_ (h.2 i hi)⟩;have:fr.getD i .any∈fr:=by simp [u8,hi]
 exact zCs.1 hb _ this
structure RI (K:Nat) (P:Program) (Γ:A1) (N:Nat -> Prop) (h0:DH) (ρ0:List AJ) (w0:World) (G:Nat -> Prop) (W:World) (h:DH) (ρ:List AJ):Prop where
 hr:BP P Γ (fun b=>N b∨G b) h ρ W
 upd:AO (MO h0 ρ0) w0 W
 grow: ∀ b,MO h ρ b -> MO h0 ρ0 b∨w0.heap.size<=b
 g: ∀ b,G b -> Γ.ng<=b/\ (MO h0 ρ0 b∨w0.heap.size<=b)
 kept:Ef K ρ0 ρ
theorem RI.stable {K:Nat} {N:Nat -> Prop} {h0:DH} {ρ0:List AJ} {w0:World} (Gb:Γ.ng<=w0.heap.size) {G G':Nat -> Prop} {A B:World} {h:DH} {ρ:List AJ} (R:RI K P Γ N h0 ρ0 w0 G A h ρ) (hu:AO G A B) (hg: ∀ k,G' k -> G k∨A.heap.size<=k) (hb: ∀ k,G' k -> k<B.heap.size):RI K P Γ N h0 ρ0 w0 G' B h ρ:=by
 have hs:w0.heap.size<=A.heap.size:=R.upd.size;refine ⟨R.hr.foreign hu (fun b hx=>⟨.inr hx,(R.g b hx).1⟩) (fun b hx=>?_) (fun b hx=>?_),R.upd.comp hu fun i hi hx=>(R.g i hx).2.resolve_right (by omega),R.grow,fun b hx=>?_,R.kept⟩
 ·rcases hx with hx | hx
  ·exact .inl (.inl hx)
  ·exact (hg b hx).imp .inr id
 ·rcases hx with hx | hx
  ·exact ⟨zCu (R.hr.nlt b (.inl hx)).1 hu.size,(R.hr.nlt b (.inl hx)).2⟩
  ·exact ⟨hb b hx,(hg b hx).elim (fun h=>(R.g b h).1) (fun h=>by omega)⟩
 ·rcases hg b hx with hx | hx
  ·exact R.g b hx
  ·exact ⟨by omega,.inr (by omega)⟩
theorem RI.outl {K:Nat} {N:Nat -> Prop} {h0:DH} {ρ0:List AJ} {w0:World} {G:Nat -> Prop} {W:World} {h:DH} {ρ:List AJ} (R:RI K P Γ N h0 ρ0 w0 G W h ρ):BV (MS N h0 ρ0) w0 (ρ0.take K) (MS (fun b=>N b∨G b) h ρ) W ρ:=
 ⟨fun b AL hm _=>R.upd.block b AL fun hx=>hm (.inr hx),fun b hb=>by
  rcases hb with (hb | hb) | hb
  ·exact .inl (.inl hb)
  ·exact (R.g b hb).2.imp .inr id
  ·exact (R.grow b hb).imp .inr id,fun k p hk=>by
  rw [List.getElem?_take] at hk
  by_cases e:k<K
  ·rw [zB3 e] at hk;exact R.kept k p e hk
  ·rw [zCt e] at hk;cases hk⟩
def KT:Exit -> Option Code
 | .ret=>some .ret
 | .exit id=>some (.exit id)
 | _=>none
def cE (L:Nat) (J:DH -> Prop) (Jx:Exit -> DH -> Prop) (e:Exit) (S:St):Prop:=∃ S3,BO L S S3/\ ((e= .normal/\ J S3.h)∨((KT e).isSome=true/\ Jx e S3.h))
def ml (P:Program) (Γ:A1) (fr:List DV) (ps:List Tmp) (assign body:Code) (L:Nat) (J:Nat -> DH -> Prop) (Jx:Exit -> DH -> Prop) (encs:List (Array Value)):Prop:=
 ∀ (l B:Nat) (Y:Bi P Γ L) (i:Nat) (x:Array Value) (h:DH),encs[i]? =some x -> J i h ->
  Tr P Γ (Fence.wide.inRound l) (some B) L Y assign ⟨Jp fr ps x.toList,h⟩ (P5 (fun S' Y'=>Y'=Y/\ ∀ Y2:Bi P Γ L,Tr P Γ (Fence.wide.inRound l) (some B) L Y2 body S' (stay Y2 (cE L (J (i+1)) Jx))) (fun _ _ _=>False))
theorem fY {N:Nat -> Prop} {S:St} {ρ:List AJ} {a:Act} {w:World} (R:Ac P Γ N S ρ a w) {ps:Array Tmp} {assign body:Code} {encs:List (Array Value)} {J:Nat -> DH -> Prop} {Jx:Exit -> DH -> Prop} {Rd:Nat -> Prop} {l KK:Nat} (Dx:S.fr.all (GX KK)=true)
 (JT: ∀ b,Rd b -> ¬ MS N S.h ρ b/\ b<w.heap.size) (Dn:ml P Γ S.fr ps.toList assign body KK J Jx encs)
 (G:Nat -> Prop) (i:Nat) (x:Array Value) (W:World) (hx:encs[i]? =some x) (hI: ∃ h ρ',J i h/\ RI KK P Γ N S.h ρ w G W h ρ') (hl: ∃ r,W.heap[l]? =some (.loop r)) (DQ:G l):
 assign.wpIn (Fence.wide.inRound l) 0 P (Exit.then (fun a₁ W₁=>∃ K:(Nat -> Prop) -> World -> Prop,E6 K/\ AO (fun k=>¬ (G k∨Rd k)) W W₁/\ K G W₁/\ ∀ W₂,K G W₂ -> (∃ r,W₂.heap[l]? =some (.loop r)) ->
  body.wpIn (Fence.wide.inRound l) 0 P (T7 (fun k=>G k∨Rd k) (fun W'=>∃ h ρ',J (i+1) h/\ RI KK P Γ N S.h ρ w G W' h ρ') (fun c W'=>∃ e,KT e=some c/\ ∃ h ρ',Jx e h/\ RI KK P Γ N S.h ρ w G W' h ρ') W₂) a₁ W₂) (fun _ _ _=>False)) { tmps:=(ps.zip x).foldl (fun t (p,v)=>t.setIfInBounds p v) a.tmps,defers:=[] } W:=by
 obtain ⟨h,ρ1,hJ,hR⟩:=hI;have Gb:Γ.ng<=w.heap.size:=Γ.lo _ R.hr.gi
 have V8:CA (MS (fun b=>N b∨G b) h ρ1) W ρ1 (Jp S.fr ps.toList x.toList) ((ps.zip x).foldl (fun t (p,v)=>t.setIfInBounds p v) a.tmps):=by
  have:=eF (ps.zip x).toList ((R.fr.take Dx).out hR.outl);rw [Array.toList_zip] at this;rw [←Array.foldl_toList,Array.toList_zip];exact this
 have off: ∀ {G:Nat -> Prop} {W:World} {h:DH} {ρ1:List AJ},RI KK P Γ N S.h ρ w G W h ρ1 -> ∀ b,MO h ρ1 b -> ¬ (G b∨Rd b):=by
  rintro G W h ρ1 hR b hm (hg | hd)
  ·obtain ⟨k,o,p,q1,q2,q3⟩:=hm;exact (hR.hr.cel k o p b q1 q2 q3).2.1 (.inr hg)
  ·rcases hR.grow b hm with hm | hm
   ·exact (JT b hd).1 (.inr hm)
   ·have:=(JT b hd).2;omega
 have step: ∀ {G:Nat -> Prop} {W W':World} {h h':DH} {ρ1 ρ2:List AJ},RI KK P Γ N S.h ρ w G W h ρ1 -> BP P Γ (fun b=>N b∨G b) h' ρ2 W' -> BH h ρ1 W h' ρ2 W' -> Ef KK ρ1 ρ2 -> RI KK P Γ N S.h ρ w G W' h' ρ2:=by
  intro G W W' h h' ρ1 ρ2 hR Cy st hk;have hs:=hR.upd.size;exact ⟨Cy,hR.upd.comp st.upd fun b hb hm=>(hR.grow b hm).resolve_right (by omega),fun b hb=>(st.grow b hb).elim (hR.grow b) fun h=>.inr (by omega),hR.g,hR.kept.trans hk⟩
 have bd:Bd (Fence.wide.inRound l) (some W.heap.size) W:=⟨fun b e=>by cases e;exact zC6 _,fun l' e=>by cases e;exact hl⟩;refine zEe (Dn l W.heap.size (QB P Γ KK (fun b=>N b∨G b) h ρ1 W) i x h hx hJ _ ρ1 _ W ⟨hR.hr,V8⟩ ⟨rfl,BH.refl _ _ _,Ef.refl _ _⟩ trivial bd) ?_;rintro e a1 W1 ⟨S',ρ2,N2,Y2,h1,h2,h3,h4,_⟩;cases e with
 | normal=>
  obtain ⟨rfl,h1⟩:=h1;obtain ⟨rfl,h3,h5⟩:=h3;refine ⟨fun G' W'=>RI KK P Γ N S.h ρ w G' W' S'.h ρ2/\ CA (MS (fun b=>N b∨G' b) S'.h ρ2) W' ρ2 S'.fr a1.tmps/\ Ee W.heap.size a1.defers W'/\ W1.heap.size<=W'.heap.size/\ (∀ b,G' b -> b<W.heap.size∨W1.heap.size<=b)/\ (∀ d∈a1.defers,∀ D,d.target= .collected D -> D<W1.heap.size),?_,h3.upd.mono fun b _ hm=>off hR b hm,⟨step hR h2.hr h3 h5,h2.fr,h4,zC6 _,fun b hg=>.inl (hR.hr.nlt b (.inr hg)).1,fun d hd D ht=>Ee.lt h4 hd ht⟩,?_⟩
  ·rintro G1 G2 A C ⟨q1,q2,q3,q4,q5,q6⟩ hu hg hb;have zQ:=q1.stable Gb hu hg hb;refine ⟨zQ,q2.out (BV.foreign (Γ:=Γ) hu (fun b hx=>⟨.inr hx,(q1.g b hx).1⟩) fun b hx=>?_),?_,zCv q4 hu.size,fun b hx=>(hg b hx).elim (q5 b) (fun h=>.inr (by omega)),q6⟩
   ·rcases hx with hx | hx
    ·exact .inl (.inl hx)
    ·exact (hg b hx).imp .inr id
   ·have go: ∀ {ds:List Deferred},Ee W.heap.size ds A -> (∀ d∈ds,∀ D,d.target= .collected D -> D<W1.heap.size) -> Ee W.heap.size ds C:=by
     intro ds
     induction ds with
     | nil=>intros;trivial
     | cons d ds ih=>
      rintro ⟨D,r1,r2,r3,r4,r5⟩ AL;have hD:D<W1.heap.size:=AL d (by simp) D (by rw [r1]);refine ⟨D,r1,r2,(hu.block D (zCl.1 r3).1 fun hx=>?_).trans r3,r4,ih r5 fun d' LZ=>AL d' (by simp [LZ])⟩;rcases q5 D hx with h | h <;> omega
    exact go q3 q6
  ·rintro W2 ⟨q1,q2,q3,q4,q5,q6⟩ Cd;have bd2:Bd (Fence.wide.inRound l) (some W.heap.size) W2:=⟨fun b e=>by cases e;exact zCv h3.upd.size q4,fun l' e=>by cases e;exact Cd⟩;refine zEe (h1 (QB P Γ KK (fun b=>N b∨G b) S'.h ρ2 W2) _ ρ2 a1 W2 ⟨q1.hr,q2⟩ ⟨rfl,BH.refl _ _ _,Ef.refl _ _⟩ q3 bd2) ?_;rintro e a3 W3 ⟨S3,ρ3,N3,Y3,r1,r2,r3,r4,_⟩
   have out: ∀ e,(QB P Γ KK (fun b=>N b∨G b) S'.h ρ2 W2).I N3 S3.h ρ3 W3 -> cE KK (J (i+1)) Jx e S3 -> AO (fun k=>¬ (G k∨Rd k)) W2 W3/\ ((e= .normal/\ ∃ h ρ',J (i+1) h/\ RI KK P Γ N S.h ρ w G W3 h ρ')∨((KT e).isSome=true/\ ∃ h ρ',Jx e h/\ RI KK P Γ N S.h ρ w G W3 h ρ')):=by
    rintro e r0 ⟨S4,Bx,zY⟩;obtain ⟨rfl,r3,r5⟩:=r0;obtain ⟨ρ4,R4,s4,k4⟩:=Bx P Γ _ ρ3 a3 W3 r2;have i5:=step q1 R4.hr (r3.trans s4) (r5.trans k4);exact ⟨r3.upd.mono fun b _ hm=>off q1 b hm,zY.imp (fun ⟨x,y⟩=>⟨x,S4.h,ρ4,y,i5⟩) (fun ⟨x,y⟩=>⟨x,S4.h,ρ4,y,i5⟩)⟩
   cases e with
   | normal=>
    obtain ⟨rfl,r1⟩:=r1;obtain ⟨o1,o2⟩:=out _ r3 r1;rcases o2 with ⟨_,o2⟩ | ⟨o2,_⟩
    ·exact ⟨o1,o2⟩
    ·cases o2
   | ret=>
    obtain ⟨rfl,r1⟩:=r1;obtain ⟨o1,o2⟩:=out _ r3 r1;rcases o2 with ⟨o2,_⟩ | ⟨_,o2⟩
    ·cases o2
    ·exact ⟨o1,.ret,rfl,o2⟩
   | exit id=>
    obtain ⟨rfl,r1⟩:=r1;obtain ⟨o1,o2⟩:=out _ r3 r1;rcases o2 with ⟨o2,_⟩ | ⟨_,o2⟩
    ·cases o2
    ·exact ⟨o1,.exit id,rfl,o2⟩
   | goto t=>
    obtain ⟨rfl,r1⟩:=r1;obtain ⟨o1,o2⟩:=out _ r3 r1;rcases o2 with ⟨o2,_⟩ | ⟨o2,_⟩ <;> cases o2
   | panic c=>exact r1.elim
   | outgrown=>exact r1.elim
 | ret=>exact h1.elim
 | exit id=>exact h1.elim
 | goto t=>exact h1.elim
 | panic c=>exact h1.elim
 | outgrown=>exact h1.elim
theorem Tr.range {F:Fence} (If:F=Fence.wide∨∃ l,F=Fence.wide.inRound l) {B L:Nat} {Y:Bi P Γ L} {S:St} {g:Operand} {ps:Array Tmp} {assign body:Code} {Q:QY P Γ L} {k:Nat} {encs:List (Array Value)} (J:Nat -> DH -> Prop) (Jx:Exit -> DH -> Prop)
 (hg:Aa S.fr g= .it k) (hk:S.h[k]? =some (some (.iter encs))) (EF: ∀ x∈encs,x.size=ps.size) {KK:Nat} (hL:L<=KK) (Dx:S.fr.all (GX KK)=true) (h0:J 0 (S.h.set k none))
 (Dn:ml P Γ S.fr ps.toList assign body KK J Jx encs) (Ea: ∀ h,J encs.length h -> Q .normal ⟨S.fr,h⟩ Y) (Om: ∀ e h,(KT e).isSome=true -> Jx e h -> Q e ⟨S.fr,h⟩ Y):Tr P Γ F (some B) L Y (.rangeFunc g ps assign body) S Q:=fun N ρ a w R y m b=>by
 have hx:=Bo R g;rw [hg] at hx;obtain ⟨p,hp,hv⟩:=hx;obtain ⟨p',A2,gf,lb,Rd,⟨e1,e2⟩,q2,q3,q4⟩:=R.hr.obj k _ hk;have ep:p'=p:=zCq (A2.symm.trans hp);subst ep;have jW:a.eval g= .func (.func gf) #[] lb:=hv.trans e1;have Gb:Γ.ng<=w.heap.size:=Γ.lo _ R.hr.gi;have j4: ∀ b,p'.foot b -> MO S.h ρ b:=fun b hb=>⟨k,_,p',hk,hp,hb⟩
 have j5: ∃ h ρ',J 0 h/\ RI KK P Γ N S.h ρ w p'.foot w h ρ':=by
  refine ⟨S.h.set k none,ρ,h0,?_,AO.refl _ _,fun b hb=>.inl (MO.kill hb),fun b hb=>⟨(R.hr.cel k _ p' b hk hp hb).1,.inl (j4 b hb)⟩,Ef.refl _ _⟩;have H1:BP P Γ N (S.h.set k none) ρ w:=R.hr.kill k
  have LT: ∀ b,MS (fun b=>N b∨p'.foot b) (S.h.set k none) ρ b -> MS N S.h ρ b:=fun b hb=>by
   rcases hb with (hb | hb) | hb
   ·exact .inl hb
   ·exact .inr (j4 b hb)
   ·exact .inr (MO.kill hb)
  refine ⟨H1.len,fun i o hi=>?_,fun i o p2 b g1 g2 g3=>?_,H1.dis,fun b hb=>hb.elim (R.hr.nlt b) fun h=>⟨q4 b h,(R.hr.cel k _ p' b hk hp h).1⟩,R.hr.gi⟩
  ·obtain ⟨AY,BD⟩:=F0 hi;obtain ⟨p2,M8,hr⟩:=R.hr.obj i o BD;exact ⟨p2,M8,hr.out (Db LT ρ) (S:=fun _=>False) (AO.refl _ _) (fun _ h=>h.elim) fun _ _ _ h=>h⟩
  ·obtain ⟨AY,BD⟩:=F0 g1;obtain ⟨c1,c2,c3⟩:=R.hr.cel i o p2 b BD g2 g3;exact ⟨c1,fun hb=>hb.elim c2 fun hb=>R.hr.dis i k o _ p2 p' b AY BD hk g2 hp g3 hb,c3⟩
 have EY: ∀ i,E6 (fun G W=>∃ h ρ',J i h/\ RI KK P Γ N S.h ρ w G W h ρ'):=fun i G G' A C ⟨h,ρ',h1,h2⟩ hu R6 hb=>⟨h,ρ',h1,h2.stable Gb hu R6 hb⟩
 have fin: ∀ {G:Nat -> Prop} {W:World} {h:DH} {ρ':List AJ},RI KK P Γ N S.h ρ w G W h ρ' -> BP P Γ N h ρ' W:=fun {G W h ρ'} hR=>
  hR.hr.foreign (G:=fun _=>False) (AO.refl _ _) (fun _ h=>h.elim) (fun b hb=>.inl (.inl hb)) fun b hb=>hR.hr.nlt b (.inl hb)
 have PH: ∀ {G:Nat -> Prop} {W:World} {h:DH} {ρ':List AJ},RI KK P Γ N S.h ρ w G W h ρ' -> CA (MS N h ρ') W ρ' S.fr a.tmps:=fun {G W h ρ'} hR=>
  ((R.fr.take Dx).out hR.outl).out (Db (fun b hb=>hb.imp .inl id) ρ')
 have Fl: ∀ {G:Nat -> Prop} {W:World} {h:DH} {ρ':List AJ},RI KK P Γ N S.h ρ w G W h ρ' -> BH S.h ρ w h ρ' W:=fun hR=>⟨hR.upd,hR.grow⟩
 have i4: ∀ c,E6 (fun G W=>∃ e,KT e=some c/\ ∃ h ρ',Jx e h/\ RI KK P Γ N S.h ρ w G W h ρ'):=fun c G G' A C ⟨e,he,h,ρ',h1,h2⟩ hu R6 hb=>⟨e,he,h,ρ',h1,h2.stable Gb hu R6 hb⟩
 have kp: ∀ {G:Nat -> Prop} {W:World} {h:DH} {ρ':List AJ},RI KK P Γ N S.h ρ w G W h ρ' -> Ef L ρ ρ':=fun hR k p hk hp=>hR.kept k p (zCu hk hL) hp
 rcases If with rfl | ⟨l0,rfl⟩
 ·have mk: ∀ {D:Nat} {G:Nat -> Prop} {W:World} {h:DH} {ρ':List AJ},RI KK P Γ N S.h ρ w G W h ρ' -> W.heap[D]? =some (.deferred (some [])) -> w.heap.size<=D -> Ee B ({ target:=.collected D,args:=#[] }::a.defers) W:=fun {D G W h ρ'} hR hD Ok=>
   ⟨D,rfl,zCv (b.le _ rfl) Ok,hD,fun d' LZ ht=>by have:=Ee.lt m LZ ht;omega,RJ R.hr (Fl hR) m⟩
  refine nC jW e2 q2 (fun b hb=>q4 b hb) (fun b hb=>(q3 b hb).2) EF _ _ EY i4 j5 (fun l G i x W hx hI hl DQ=>fY R Dx q3 Dn G i x W hx hI hl DQ) ?_ ?_
  ·rintro D G W ⟨h,ρ',h1,hR⟩ hD zb Ok;exact ⟨⟨S.fr,h⟩,ρ',N,Y,Ea h h1,⟨fin hR,PH hR⟩,Y.st y R.hr (fin hR) (Fl hR) (kp hR),mk hR hD Ok,b.step R.hr (Fl hR)⟩
  ·rintro D c G W ⟨e,he,h,ρ',h1,hR⟩ hD zb Ok;have hq:=Om e h (by rw [he];rfl) h1;cases e with
   | ret=>cases he;exact wpIn_ret ⟨⟨S.fr,h⟩,ρ',N,Y,hq,⟨fin hR,PH hR⟩,Y.st y R.hr (fin hR) (Fl hR) (kp hR),mk hR hD Ok,b.step R.hr (Fl hR)⟩
   | exit id=>cases he;exact wpIn_exit ⟨⟨S.fr,h⟩,ρ',N,Y,hq,⟨fin hR,PH hR⟩,Y.st y R.hr (fin hR) (Fl hR) (kp hR),mk hR hD Ok,b.step R.hr (Fl hR)⟩
   | normal=>cases he
   | goto t=>cases he
   | panic c=>cases he
   | outgrown=>cases he
 ·refine nD jW e2 (b.rd l0 rfl) q2 (fun b hb=>q4 b hb) (fun b hb=>(q3 b hb).2) EF _ _ EY i4 j5 (fun l G i x W hx hI hl DQ=>fY R Dx q3 Dn G i x W hx hI hl DQ) ?_ ?_
  ·rintro G W ⟨h,ρ',h1,hR⟩;exact ⟨⟨S.fr,h⟩,ρ',N,Y,Ea h h1,⟨fin hR,PH hR⟩,Y.st y R.hr (fin hR) (Fl hR) (kp hR),RJ R.hr (Fl hR) m,b.step R.hr (Fl hR)⟩
  ·rintro c G W ⟨e,he,h,ρ',h1,hR⟩;have hq:=Om e h (by rw [he];rfl) h1;cases e with
   | ret=>cases he;exact wpIn_ret ⟨⟨S.fr,h⟩,ρ',N,Y,hq,⟨fin hR,PH hR⟩,Y.st y R.hr (fin hR) (Fl hR) (kp hR),RJ R.hr (Fl hR) m,b.step R.hr (Fl hR)⟩
   | exit id=>cases he;exact wpIn_exit ⟨⟨S.fr,h⟩,ρ',N,Y,hq,⟨fin hR,PH hR⟩,Y.st y R.hr (fin hR) (Fl hR) (kp hR),RJ R.hr (Fl hR) m,b.step R.hr (Fl hR)⟩
   | normal=>cases he
   | goto t=>cases he
   | panic c=>cases he
   | outgrown=>cases he
def Em {α σ:Type} (f:α -> σ -> Option (σ×Nat)):List α -> σ -> Option (σ×Nat)
 | [],s=>some (s,0)
 | x::l,s=>(f x s).bind fun r=>bif r.2==0 then Em f l r.1 else some r
def B6 {α σ:Type} (f:α -> σ -> Option σ):List α -> σ -> Option σ
 | [],s=>some s
 | x::l,s=>(f x s).bind (B6 f l)
theorem kN {α σ:Type} (f:α -> σ -> Option σ): ∀ (l:List α) (s:σ),Em (fun x s=>(f x s).map fun s'=>(s',0)) l s=(B6 f l s).map fun s'=>(s',0)
 | [],s=>rfl
 | x::l,s=>by
  simp only [Em,B6];cases f x s with
  | none=>rfl
  | some s'=>exact kN f l s'
def DT (L:Nat) (ex:List Exit) (c:Nat) (h':DH) (e:Exit) (S:St):Prop:=(Exit.normal::ex)[c]? =some e/\ ∃ S3,BO L S S3/\ S3.h=h'
def GR (P:Program) (Γ:A1) (F:Fence) (B:Option Nat) (L:Nat) (N:Bi P Γ L) (Q:Exit -> St -> Prop) (assign body:Code) (S:St):Prop:=
 Tr P Γ F B L N assign S (P5 (fun S' Y'=>Y'=N/\ ∀ N2:Bi P Γ L,BU P Γ F B L N2 Q [.code body] S') (fun _ _ _=>False))
theorem GR.go {F:Fence} {B:Option Nat} {L:Nat} {N:Bi P Γ L} {Q:Exit -> St -> Prop} (hF:D4 F P) (hm:P.follows .mixedOrders=true) {assign body:Code} {S:St} (Ax:Bb) (n:Nat) (o:Bz) (live σ:List Nat) (fr:List DV) (h':DH) (vs:List Prop)
 (h:(B5 P Γ Ax n [.code assign] S o).map (Q7 live σ L)=some (.at [],fr,h',vs,[],[],true)) (hv:Bm vs) (hk: ∀ N2:Bi P Γ L,BU P Γ F B L N2 Q [.code body] ⟨fr,h'⟩):GR P Γ F B L N Q assign body S:=by
 obtain ⟨S',_,h1,hs⟩:=tO h;have T:=FI (F:=F) (B:=B) (L:=L) (Y:=N) (Q:=fun e S2 Y2=>e= .normal/\ Y2=N/\ ∀ N2:Bi P Γ L,BU P Γ F B L N2 Q [.code body] S2) hF hm n [.code assign] S o _ _ _ _ h1 hv ⟨rfl,rfl,fun N2=>BU.le hs rfl (hk N2)⟩;refine Tr.mono (show Tr P Γ F B L N assign S _ from T) fun e S2 Y2 hq=>?_
 cases e with
 | normal=>exact hq.2
 | ret=>exact absurd hq.1 (by simp)
 | exit id=>exact absurd hq.1 (by simp)
 | goto t=>exact absurd hq.1 (by simp)
 | panic c=>exact absurd hq.1 (by simp)
 | outgrown=>exact absurd hq.1 (by simp)
theorem BU.rangeFold {F:Fence} (If:F=Fence.wide∨∃ l,F=Fence.wide.inRound l) {B L:Nat} {Y:Bi P Γ L} {Q:QY P Γ L} {S:St} {g:Operand} {ps:Array Tmp} {assign body:Code} {k:List KI} {kk:Nat} {α σ:Type} (ex:List Exit) (JS:(ex.all fun e=>(KT e).isSome)=true) (enc:α -> Array Value) (l:List α) (H:σ -> DH) (f:α -> σ -> Option (σ×Nat)) {s0:σ} {rE:σ×Nat} (hf:Em f l s0=some rE)
 (hg:Aa S.fr g= .it kk) (hk:S.h[kk]? =some (some (.iter (l.map enc)))) (EF: ∀ x,(enc x).size=ps.size) {K:Nat} (hL:L<=K) (Dx:S.fr.all (GX K)=true) (h0:S.h.set kk none=H s0)
 (Dn: ∀ (l B:Nat) (N:Bi P Γ K) (x:α) (s:σ) (r:σ×Nat),f x s=some r -> GR P Γ (Fence.wide.inRound l) (some B) K N (DT K ex r.2 (H r.1)) assign body ⟨Jp S.fr ps.toList (enc x).toList,H s⟩)
 (Ea: ∀ e,(Exit.normal::ex)[rE.2]? =some e -> Dp P Γ F (some B) L Q k e ⟨S.fr,H rE.1⟩ Y):Av P Γ F (some B) L Y Q (.code (.rangeFunc g ps assign body)::k) S:=by
 refine Tr.range (Q:=Dp P Γ F (some B) L Q k) (KK:=K) If (fun i h=>∃ s,Em f (l.drop i) s=some rE/\ h=H s) (fun e h=>(Exit.normal::ex)[rE.2]? =some e/\ h=H rE.1) hg hk (fun x hx=>?_) hL Dx ⟨s0,hf,h0⟩ ?_ ?_ ?_
 ·obtain ⟨y,_,rfl⟩:=zDr.1 hx;exact EF y
 ·rintro l' B' N' i x h hx ⟨s,hs,rfl⟩;rw [zC1] at hx;cases hy:l[i]? with
  | none=>rw [hy] at hx;cases hx
  | some y=>
   rw [hy] at hx;cases hx;have AL:=(zCr.1 hy).1
   have hd:l.drop i=y::l.drop (i+1):=by
    rw [zDD AL]
    congr 1
    exact (zCr.1 hy).2
   rw [hd] at hs;obtain ⟨r,h1,h2⟩:=bT hs;have T:=Dn l' B' N' y s r h1
   have fin: ∀ {e:Exit} {S2:St},DT K ex r.2 (H r.1) e S2 -> cE K (fun h=>∃ s,Em f (l.drop (i+1)) s=some rE/\ h=H s) (fun e h=>(Exit.normal::ex)[rE.2]? =some e/\ h=H rE.1) e S2:=by
    rintro e S2 ⟨r1,S3,r2,r3⟩;refine ⟨S3,r2,?_⟩;cases hc:r.2 with
    | zero=>
     rw [hc] at r1 h2;cases r1;exact .inl ⟨rfl,r.1,h2,r3⟩
    | succ c=>
     rw [hc] at r1 h2;cases h2;have:e∈ex:=zDN (i:=c) r1;exact .inr ⟨zCs.1 JS e this,by rw [hc];exact r1,r3⟩
   refine Tr.mono T fun e S2 Y2 hq=>?_
   cases e with
   | normal=>exact ⟨hq.1,fun N2=>Tr.mono (show Tr P Γ (Fence.wide.inRound l') (some B') K N2 body S2 (stay N2 (DT K ex r.2 (H r.1))) from hq.2 N2) fun e S3 Y3 h3=>⟨h3.1,fin h3.2⟩⟩
   | ret=>exact hq.elim
   | exit id=>exact hq.elim
   | goto t=>exact hq.elim
   | panic c=>exact hq.elim
   | outgrown=>exact hq.elim
 ·rintro h ⟨s,hs,rfl⟩;rw [zDe,List.drop_length] at hs;cases hs;exact Ea .normal rfl
 ·rintro e h he ⟨h1,rfl⟩;exact Ea e h1
theorem PM {F:Fence} {B:Option Nat} {L:Nat} {Y:Bi P Γ L} {Q:QY P Γ L} {S:St} {id:Nat} (h:Q (.exit id) S Y): ∀ (k:List KI),IP id k=none -> Dp P Γ F B L Q k (.exit id) S Y
 | [],_=>h
 | .blk i::k,hp=>by
  unfold IP at hp;split at hp
  ·cases hp
  ·rename_i e
   show (if id=i then _ else _)
   rw [zCt e];exact PM h k hp
 | .code c::k,hp=>PM (k:=k) h hp
 | .lend J::k,hp=>PM (k:=k) h hp
 | .scp::k,hp=>PM (k:=k) h hp
 | .loopN m b::k,hp=>PM (k:=k) h hp
end
def Jt (t:Nat):Code -> Option (Array Tmp×Code×Code)
 | .rangeFunc (.tmp t') ps a b=>if t'=t then some (ps,a,b) else Jt t b
 | .seq a b=>match Jt t a with
  | some r=>some r
  | none=>Jt t b
 | .cond _ a b=>match Jt t a with
  | some r=>some r
  | none=>Jt t b
 | .block _ c=>Jt t c
 | .loop c=>Jt t c
 | .scope c=>Jt t c
 | _=>none
def fP (f:Func) (t:Nat):Array Tmp×Code×Code:=match f.body with
 | some c=>(Jt t c).getD (#[],.skip,.skip)
 | none=>(#[],.skip,.skip)
def UF (f:Func) (t:Nat):Code:=(fP f t).2.2
def rf (f:Func) (t:Nat):Code:=(fP f t).2.1
def AZ (f:Func):Code:=f.body.getD .skip
def fo (id:Nat) (k:List KI):List KI:=(IP id k).getD []
theorem Dp.exitTo {P:Program} {Γ:A1} {F:Fence} {B:Option Nat} {L:Nat} {Y:Bi P Γ L} {Q:QY P Γ L} {id:Nat} {k:List KI} {S:St} (h:(IP id k).isSome=true) (hk:Av P Γ F B L Y Q (fo id k) S):Dp P Γ F B L Q k (.exit id) S Y:=by
 unfold fo at hk;cases hp:IP id k with
 | none=>rw [hp] at h;cases h
 | some k'=>rw [hp] at hk;exact MZ hp hk
def MR:List KI -> Option (Operand×Array Tmp×Code×Code×List KI)
 | .code (.rangeFunc g ps a b)::k=>some (g,ps,a,b,k)
 | _=>none
theorem BU.rangeAt {P:Program} {Γ:A1} {F:Fence} (If:F=Fence.wide∨∃ l,F=Fence.wide.inRound l) {B L:Nat} {Y:Bi P Γ L} {Q:QY P Γ L} {fr:List DV} {h:DH} {K:List KI} (ex:List Exit) (JS:(ex.all fun e=>(KT e).isSome)=true) (g:Operand) (ps:Array Tmp) (a b:Code) (k2:List KI) {kk:Nat} {α σ:Type} (enc:α -> Array Value) (l:List α) (H:σ -> DH) (FR:α -> List DV) (f:α -> σ -> Option (σ×Nat)) {s0:σ} {rE:σ×Nat} (hf:Em f l s0=some rE)
 (hK:MR K=some (g,ps,a,b,k2)) (hg:Aa fr g= .it kk) (hk:h[kk]? =some (some (.iter (l.map enc)))) (EF: ∀ x,(enc x).size=ps.size) (L':Nat) (hL:Nat.ble L L'=true) (GO:fr.all (GX L')=true) (h0:h.set kk none=H s0) (Dx:(fun x=>Jp fr ps.toList (enc x).toList)=FR)
 (Dn: ∀ (l B:Nat) (N:Bi P Γ L') (x:α) (s:σ) (r:σ×Nat),f x s=some r -> GR P Γ (Fence.wide.inRound l) (some B) L' N (DT L' ex r.2 (H r.1)) a b ⟨FR x,H s⟩)
 (Ea: ∀ e,(Exit.normal::ex)[rE.2]? =some e -> Dp P Γ F (some B) L Q k2 e ⟨fr,H rE.1⟩ Y):Av P Γ F (some B) L Y Q K ⟨fr,h⟩:=by
 unfold MR at hK;split at hK
 ·cases hK;subst Dx;exact BU.rangeFold If ex JS enc l H f hf hg hk EF (zDw hL) GO h0 Dn Ea
 ·cases hK
theorem BU.rangeAt0 {P:Program} {Γ:A1} {F:Fence} (If:F=Fence.wide∨∃ l,F=Fence.wide.inRound l) {B L:Nat} {Y:Bi P Γ L} {Q:QY P Γ L} {fr:List DV} {h:DH} {K:List KI} (g:Operand) (ps:Array Tmp) (a b:Code) (k2:List KI) {kk:Nat} {α σ:Type} (enc:α -> Array Value) (l:List α) (H:σ -> DH) (FR:α -> List DV) (f:α -> σ -> Option σ) {s0 sE:σ} (hf:B6 f l s0=some sE)
 (hK:MR K=some (g,ps,a,b,k2)) (hg:Aa fr g= .it kk) (hk:h[kk]? =some (some (.iter (l.map enc)))) (EF: ∀ x,(enc x).size=ps.size) (L':Nat) (hL:Nat.ble L L'=true) (GO:fr.all (GX L')=true) (h0:h.set kk none=H s0) (Dx:(fun x=>Jp fr ps.toList (enc x).toList)=FR)
 (Dn: ∀ (l B:Nat) (N:Bi P Γ L') (x:α) (s r:σ),f x s=some r -> GR P Γ (Fence.wide.inRound l) (some B) L' N (DT L' [] 0 (H r)) a b ⟨FR x,H s⟩)
 (Ea:Av P Γ F (some B) L Y Q k2 ⟨fr,H sE⟩):Av P Γ F (some B) L Y Q K ⟨fr,h⟩:=by
 refine BU.rangeAt If [] rfl g ps a b k2 enc l H FR (fun x s=>(f x s).map fun s'=>(s',0)) (rE:=(sE,0)) (by rw [kN,hf];rfl) hK hg hk EF L' hL GO h0 Dx (fun l' B' N' x s r hr=>?_) (fun e he=>?_)
 ·cases hx:f x s with
  | none=>rw [hx] at hr;cases hr
  | some s'=>
   rw [hx] at hr;cases hr;exact Dn l' B' N' x s s' hx
 ·cases he;exact Ea
def Li (t:Nat):List Nat -> Code -> List KI -> Option (List KI)
 | ms,.seq a b,k=>match Li t ms a (.code b::k) with
  | some r=>some r
  | none=>Li t ms b k
 | ms,.cond _ a b,k=>match Li t ms a k with
  | some r=>some r
  | none=>Li t ms b k
 | ms,.block i c,k=>Li t ms c (.blk i::k)
 | ms,.scope c,k=>Li t ms c (.scp::k)
 | m::ms,.loop b,k=>Li t ms b (.loopN m b::k)
 | _,.rangeFunc (.tmp t') ps a b,k=>if t'=t then some (.code (.rangeFunc (.tmp t') ps a b)::k) else none
 | _,_,_=>none
def Gi (c:Code) (t:Nat) (ms:List Nat):List KI:=(Li t ms c []).getD []
def Au (c:Code) (id:Nat) (ms:List Nat):List KI:=(Lj id ms c []).getD []
def GQ (c:Code) (id:Nat) (ms:List Nat):List KI:=(Lk id ms c []).getD []
end Go.Proofs.YtgkhhfnhacibcaaGreatDoor
namespace Go.Proofs.YtgkhhfnhacibcaaGreatDoor
open Go.RowKit
abbrev L1 (l:List DV):Nat -> DV:=fun j=>l.getD j .any
abbrev As {α:Type} [Inhabited α] (c:α -> List DV) (l:List α):Nat -> Nat -> DV:=fun i j=>(c (l.getD i default)).getD j .any
def AH (c:AB):List DV:=[.int .i64 c.kind,.ints c.cells,.int .i64 c.set,.int .i64 c.other,.int .i64 c.lo,.int .i64 c.hi,.ints c.runs,.int .i64 c.rule,.int .i64 c.spot]
def A4 (x:List Int):List DV:=[.ints x]
def Pb (x:List Bool):List DV:=[.bools x]
def AD (q:AA):List DV:=[.int .i64 q.cells,.int .i64 q.symbols,.ints q.values,.sl 1 q.nbrs.length (As A4 q.nbrs),.sl 9 q.cons.length (As AH q.cons)]
end Go.Proofs.YtgkhhfnhacibcaaGreatDoor
