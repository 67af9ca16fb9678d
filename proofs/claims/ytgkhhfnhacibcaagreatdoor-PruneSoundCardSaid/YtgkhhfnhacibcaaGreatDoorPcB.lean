/- Part 2 of 6 of what the proofs of these laws stand on. -/
import Derived.Test.YtgkhhfnhacibcaaGreatDoorPcA
import Derived.Test.YtgkhhfnhacibcaaGreatDoorProg
import Derived.Shelf.Spec.TrailingZeros
set_option linter.all false
namespace Go.Proofs.YtgkhhfnhacibcaaGreatDoor
abbrev zj:=@List.getElem?_replicate
abbrev zA4:=@Array.getElem?_replicate
end Go.Proofs.YtgkhhfnhacibcaaGreatDoor
namespace Go.Proofs.YtgkhhfnhacibcaaGreatDoor
open Go.RowKit
def TC (P:Program) (t:TypeId):Option (Nat×TypeId×TypeInfo):=match P.underlying t with
 | some (.slice e)=>match ME P e with
  | some (n,_)=>match P.info? e with
   | some i=>match i.zero with
    | some (.map none)=>if i.size=1/\ i.bytes<=128 then some (n,e,i) else none
    | _=>none
   | none=>none
  | none=>none
 | _=>none
theorem pQ {P:Program} {t e:TypeId} {n:Nat} {i:TypeInfo} (h:TC P t=some (n,e,i)):P.underlying t=some (.slice e)/\ P.info? e=some i/\ i.zero=some (.map none)/\ i.size=1/\ i.bytes<=128:=by
 unfold TC at h;split at h
 ·rename_i e' hu;split at h
  ·split at h
   ·rename_i i' hi;split at h
    ·rename_i hz;split at h
     ·rename_i hc;cases h;exact ⟨hu,hi,hz,hc.1,hc.2⟩
     ·cases h
    ·cases h
   ·cases h
  ·cases h
 ·cases h
section
variable {P:Program} {Γ:A9} {N:Nat -> Prop} {S:St} {ρ:List AN} {a:Act} {w:World} {h:DH}
theorem nX {α:Type} {n j:Nat} {x y:α} (h:(List.replicate n x)[j]? =some y):x=y:=by
 rw [zj] at h;split at h
 ·exact yY h
 ·cases h
theorem pY (R:Ad P Γ N S ρ a w) {t e:TypeId} {x y:Operand} {n:Nat} {i:TypeInfo} {kx ky:IntKind} {m:Int} (hT:TC P t=some (n,e,i)) (hx:Ac S.fr x= .int kx m) (hy:Ac S.fr y= .int ky m)
 (hn:0<=m/\ m<=1000000000000) (o:Oper) (ho:o.op= .makeSlice t x y) (ext:Bool):
 BT P (execOp a.eval o) w (C6 P Γ N S.h ρ w ext (.msl S.h.length 1 0 m.toNat) (S.h++[some (.mo (.sets n (List.replicate m.toNat none) none))])):=by
 obtain ⟨hu,hi,hz,hs,DK⟩:=pQ hT;have F6:=hn.1;have IA:=hn.2;have rx:=Bm R x;have ry:=Bm R y;rw [hx] at rx;rw [hy] at ry;have DC:(madeCells (Value.map none).cells (m.toNat*i.size)).size=m.toNat:=by rw [size_madeCells,hs,zR]
 have Cp: ∀ j,j<m.toNat -> (madeCells (Value.map none).cells (m.toNat*i.size))[j]? =some (Value.map none):=fun j hj=>by
  simp [madeCells,hs,hj,Value.cells,Nat.mod_one]
 refine BT.value (s:=Instr.makeSlice t (a.eval x) (a.eval y)) (by unfold execOp;rw [ho]) (v:=.slice (some ⟨w.heap.size,0,none⟩) m.toNat m.toNat) (w':=w.alloc (.cells (madeCells (Value.map none).cells (m.toNat*i.size)) e)) ?_ ?_
 ·rw [show a.eval x=_ from rx,show a.eval y=_ from ry];refine run_make w t e i _ hu hi hz kx ky m m F6 (zO _) ?_ (by omega);have:(i.bytes:Int)*m<=128*1000000000000:=Int.mul_le_mul (by omega) IA F6 (by omega);omega
 ·generalize hC:madeCells (Value.map none).cells (m.toNat*i.size)=cs at DC Cp ⊢
  refine Qh (ob:=.cells cs e) (o:=.mo (.sets n (List.replicate m.toNat none) none)) (d:=.msl S.h.length 1 0 m.toNat) (pl:=⟨w.heap.size,0,cs.size,.tuple (Array.replicate m.toNat (Value.map none)),fun b=>b=w.heap.size⟩) R.hr rfl rfl (fun M ρ'=>?_) (fun M ρ' hp=>⟨_,m.toNat,hp,by simp,ym _,by unfold LB;omega,by simp [DC]⟩) ext;refine ⟨Array.replicate m.toNat (Value.map none),rfl,by simp,⟨cs,e,zAM w _,by simp [DC],ym _,fun j hj=>?_⟩,rfl,fun j l hj=>?_,fun j hj=>?_,fun b hb=>.inl hb,fun i j b h1 h2=>?_⟩
  ·rw [yi] at hj
   show cs[0+j]? =_
   rw [yt,Cp j hj,zA4,yP hj]
  ·have:=nX hj;cases this
  ·have BM:=(yZ.1 hj).1;rw [yi] at BM;rw [zA4,yP BM]
  ·rw [zA4] at h1;split at h1 <;> cases h1
theorem Bb.merge (H:Bb P Γ N h ρ w) {w':World} {k j:Nat} {o oj o':DO} {p q p':AN} (Xl:k≠j) (hk:h[k]? =some (some o)) (hp:ρ[k]? =some p) (hj:h[j]? =some (some oj)) (hq:ρ[j]? =some q) (hu:AQ p.foot w w') (hf: ∀ b,p'.foot b -> (p.foot b∨q.foot b)/\ DD w' b)
 (ho:Db P (MS N ((h.set k none).set j none++[some o']) (ρ++[p'])) w' (ρ++[p']) p' o'):
 Bb P Γ N ((h.set k none).set j none++[some o']) (ρ++[p']) w'/\ BO h ρ w ((h.set k none).set j none++[some o']) (ρ++[p']) w':=by
 have Ay:((h.set k none).set j none).length=h.length:=by simp
 have hM: ∀ b,p.foot b -> MO h ρ b:=fun b hb=>⟨k,o,p,hk,hp,hb⟩
 have uz: ∀ b,q.foot b -> MO h ρ b:=fun b hb=>⟨j,oj,q,hj,hq,hb⟩
 have fY: ∀ {i:Nat} {o1:DO},((h.set k none).set j none)[i]? =some (some o1) -> i≠k/\ i≠j/\ h[i]? =some (some o1):=fun {i o1} hi=>by
  obtain ⟨e1,e2⟩:=Fk hi;obtain ⟨e3,e4⟩:=Fk e2;exact ⟨e3,e1,e4⟩
 have H5: ∀ {i:Nat} {o1:DO} {p1:AN},((h.set k none).set j none++[some o'])[i]? =some (some o1) -> (ρ++[p'])[i]? =some p1 -> (i≠k/\ i≠j/\ i<h.length/\ h[i]? =some (some o1)/\ ρ[i]? =some p1)∨(i=h.length/\ o1=o'/\ p1=p'):=by
  intro i o1 p1 h1 h2;rcases DL h1 with ⟨hl,h1⟩ | ⟨hl,h1⟩
  ·rw [Ay] at hl;rcases DL h2 with ⟨_,h2⟩ | ⟨CU,_⟩
   ·obtain ⟨e1,e2,e3⟩:=fY h1;exact .inl ⟨e1,e2,hl,e3,h2⟩
   ·rw [H.len] at CU;omega
  ·rw [Ay] at hl;rcases DL h2 with ⟨CU,_⟩ | ⟨_,h2⟩
   ·rw [H.len] at CU;omega
   ·cases h1;exact .inr ⟨hl,rfl,h2.symm⟩
 have grow: ∀ b,MO ((h.set k none).set j none++[some o']) (ρ++[p']) b -> MO h ρ b:=by
  rintro b ⟨i,o1,p1,h1,h2,h3⟩;rcases H5 h1 h2 with ⟨_,_,_,g1,g2⟩ | ⟨_,_,rfl⟩
  ·exact ⟨i,o1,p1,g1,g2,h3⟩
  ·exact (hf b h3).1.elim (hM b) (uz b)
 have O:Bi (MS N h ρ) w ρ (MS N ((h.set k none).set j none++[some o']) (ρ++[p'])) w' (ρ++[p']):=
  ⟨fun b hb hm _=>hu.block b hb fun hx=>hm (.inr (hM b hx)),fun b hb=>.inl (hb.imp id (grow b)),fun i q hi=>EC hi⟩
 refine ⟨⟨by simp [H.len],fun i o1 hi=>?_,fun i o1 p1 b h1 h2 h3=>?_,fun i i' o1 o2 p1 p2 b Ap h1 h2 h3 h4 h5 h6=>?_,fun b hb=>⟨yc (H.nlt b hb).1 hu.size,(H.nlt b hb).2⟩,Γ.st _ _ H.gi (hu.mono fun b _ hb=>(H.cel k o p b hk hp hb).1)⟩,⟨hu.mono fun b _ hb=>hM b hb,fun b hb=>.inl (grow b hb)⟩⟩
 ·rcases DL hi with ⟨hl,hi⟩ | ⟨hl,hi⟩
  ·obtain ⟨e1,e2,e3⟩:=fY hi;obtain ⟨p1,K5,hr⟩:=H.obj i o1 e3;exact ⟨p1,EC K5,hr.out O hu (fun b hb=>.inr (hM b hb)) fun b _ h1 h2=>H.dis i k o1 o p1 p b e1 e3 hk K5 hp h1 h2⟩
  ·cases hi;exact ⟨p',by rw [hl,Ay,←H.len];simp,ho⟩
 ·rcases H5 h1 h2 with ⟨Ap,_,_,g1,g2⟩ | ⟨_,_,rfl⟩
  ·obtain ⟨e1,e2,c,t,z,e3⟩:=H.cel i o1 p1 b g1 g2 h3;exact ⟨e1,e2,c,t,z,(hu.block b (yR.1 e3).1 fun hx=>H.dis i k o1 o p1 p b Ap g1 hk g2 hp h3 hx).trans e3⟩
  ·obtain ⟨e1,e2⟩:=hf b h3;rcases e1 with e1 | e1
   ·obtain ⟨q1,q2,_⟩:=H.cel k o p b hk hp e1;exact ⟨q1,q2,e2⟩
   ·obtain ⟨q1,q2,_⟩:=H.cel j oj q b hj hq e1;exact ⟨q1,q2,e2⟩
 ·have key: ∀ {i o1 p1},i≠k -> i≠j -> h[i]? =some (some o1) -> ρ[i]? =some p1 -> p1.foot b -> p'.foot b -> False:=fun {i o1 p1} Ap Mc g1 g2 g3 g4=>by
   rcases (hf b g4).1 with e1 | e1
   ·exact H.dis i k o1 o p1 p b Ap g1 hk g2 hp g3 e1
   ·exact H.dis i j o1 oj p1 q b Mc g1 hj g2 hq g3 e1
  rcases H5 h1 h3 with ⟨QV,Mc,_,g1,g2⟩ | ⟨e1,_,rfl⟩
  ·rcases H5 h2 h4 with ⟨hne3,_,_,g3,g4⟩ | ⟨e2,_,rfl⟩
   ·exact H.dis i i' o1 o2 p1 p2 b Ap g1 g3 g2 g4 h5 h6
   ·exact key QV Mc g1 g2 h5 h6
  ·rcases H5 h2 h4 with ⟨QV,Mc,_,g1,g2⟩ | ⟨e2,_,rfl⟩
   ·exact key QV Mc g1 g2 h6 h5
   ·exact Ap (e1.trans e2.symm)
def Kt (k k':Nat):DV -> DV
 | .msl k1 m o n=>if k1=k then .msl k' m o n else .msl k1 m o n
 | d=>d
def VR (P:Program) (S:St) (o:Oper):Option (St×List Prop):=match o.op with
 | .store t x y=>match o.dst with
  | none=>match Ac S.fr x with
   | .mp k 1 i 0=>match Ac S.fr y with
    | .it j=>match S.h[k]? with
     | some (some (.mo (.sets n ls none)))=>match S.h[j]? with
      | some (some (.mo (.set n' l)))=>if n'=n/\ (P.info? t).any (fun i=>i.size==1)=true then some (⟨S.fr.map (Kt k S.h.length),(S.h.set k none).set j none++[some (.mo (.sets n (ls.set i (some l)) none))]⟩,[i<ls.length]) else none
      | _=>none
     | _=>none
    | _=>none
   | _=>none
  | some _=>none
 | _=>none
theorem Ep.of_map {p:AN} {n:Nat} {ls:List (Option KS)} {lk:Option (Nat×Nat×Array MapEntry×Nat)} {vs:Array Value} (hS:Ep w p n ls lk vs) {i b:Nat} (h:vs[i]? =some (Value.map (some b))): ∃ l,ls[i]? =some (some l)/\ p.foot b/\ b≠p.blk/\ ∃ es AZ,EY w b n l es AZ:=by
 have hi:i<ls.length:=by rw [←hS.size];exact (yR.1 h).1
 cases hl:ls[i] with
 | none=>
  have:=hS.nil i (by rw [yQ hi,hl]);rw [this] at h;cases h
 | some l=>
  have EA:ls[i]? =some (some l):=by rw [yQ hi,hl]
  obtain ⟨b',g1,g2,g3,es,AZ,g4,_⟩:=hS.has i l EA;have:b'=b:=by rw [g1] at h;cases h;rfl
  subst this;exact ⟨l,EA,g3,g2,es,AZ,g4⟩
theorem j4 (R:Ad P Γ N S ρ a w) {o:Oper} {S':St} {vs:List Prop} (h:VR P S o=some (S',vs)) (hv:Bl vs):
 BT P (execOp a.eval o) w (fun v w'=>(∃ ρ',Ad P Γ N S' ρ' (a.put o.dst v) w'/\ Cr S.h ρ w S'.h ρ' w')/\ ∃ k i p t x y,o.op= .store t x y/\ Ac S.fr x= .mp k 1 i 0/\ ρ[k]? =some p/\ AQ p.foot w w'):=by
 unfold VR at h;split at h
 case h_2=>cases h
 rename_i t x y ho;split at h
 case h_2=>cases h
 rename_i Xv;split at h
 case h_2=>cases h
 rename_i k i hX;split at h
 case h_2=>cases h
 rename_i j hY;split at h
 case h_2=>cases h
 rename_i n ls hK;split at h
 case h_2=>cases h
 rename_i n' l hJ;split at h
 case isFalse=>cases h
 rename_i hc;cases h;obtain ⟨tz,A5⟩:=hc;subst tz;have hi:i<ls.length:=hv.1;have rx:=Bm R x;have ry:=Bm R y;rw [hX] at rx;rw [hY] at ry;obtain ⟨p,hp,ex⟩:=rx;obtain ⟨q,es,AZ,hq,ey,eB,hqv,hA⟩:=Va R hJ ry;obtain ⟨p',BJ,Le,hS⟩:=R.hr.obj k _ hK;have:p'=p:=yY (BJ.symm.trans hp);subst this;have Xl:k≠j:=fun e=>by subst e;rw [hK] at hJ;cases hJ
 obtain ⟨cs,ty,hb,E6,CU,Cp⟩:=hS.row;cases Jt:P.info? t with
 | none=>rw [Jt] at A5;cases A5
 | some ti=>
 rw [Jt] at A5;have Nw:ti.size=1:=by simpa using A5
 have eW:i<Le.size:=by rw [hS.size];exact hi
 have XS: ∀ b,p'.foot b -> b≠q.blk:=fun b hb e=>R.hr.dis k j _ _ p' q b Xl hK hJ hp hq hb (by rw [eB];exact e)
 have YT:a.eval x= .pointer (some ⟨p'.blk,p'.off+i,none⟩):=by rw [ex];simp
 have Bo:w.cell? ⟨p'.blk,p'.off+i,none⟩=some Le[i]:=by
  unfold World.cell?;simp only [hb];rw [Cp i hi,zB eW];rfl
 have F7: ∀ jj,w.frozen? ⟨p'.blk,jj,none⟩=false:=fun jj=>by unfold World.frozen?;simp [hb]
 have hU:AQ p'.foot w (w.setCells p'.blk (p'.off+i) (a.eval y).cells.toList):=(NF _ _ _ _).mono fun b _ e=>by rw [show b=p'.blk from e];exact hS.blk
 refine BT.skip (s:=Instr.storeAt t (a.eval x) (a.eval y)) (by unfold execOp;rw [ho]) (w':=w.setCells p'.blk (p'.off+i) (a.eval y).cells.toList) ?_ ?_
 ·rw [YT];refine Vo Jt (by rw [ey,Nw];rfl) (fun jj K8=>?_) F7 (fun u hu=>?_)
  ·rw [ey] at K8;have:jj=0:=by simpa [Value.cells] using K8
   subst this;rw [zAb,Bo];rfl
  ·rw [ey] at hu;have:u= .map (some q.blk):=by simpa [Value.cells] using hu
   subst this;rfl
 ·rw [Xv];rw [ey] at hU ⊢;have eC:(Value.map (some q.blk)).cells.toList= [Value.map (some q.blk)]:=rfl;rw [eC] at hU ⊢;obtain ⟨Dz,e1,e2,e3⟩:=OF p'.blk ty (0,0) [Value.map (some q.blk)] (p'.off+i) w cs hb (by simp;omega)
  generalize hW:w.setCells p'.blk (p'.off+i) [Value.map (some q.blk)]=W at hU e1 ⊢
  have Ba: ∀ {b ob},b≠p'.blk -> w.heap[b]? =some ob -> W.heap[b]? =some ob:=fun {b ob} Ap C0=>by
   rw [←C0,←hW];exact (NF p'.blk [Value.map (some q.blk)] (p'.off+i) w).block b (yR.1 C0).1 Ap
  have bf:q.blk≠p'.blk:=fun e=>XS p'.blk hS.blk e.symm
  let BZ:=Le.setIfInBounds i (Value.map (some q.blk))
  have HN: ∀ m:Nat,BZ[m]? =if i=m then some (Value.map (some q.blk)) else Le[m]? :=fun m=>by
   show (Le.setIfInBounds i _)[m]? =_
   rw [zK]
   by_cases e:i=m
   ·rw [yP e,yP e,yP eW]
   ·rw [yb e,yb e]
  let p2:AN:=⟨p'.blk,p'.off,p'.room,.tuple BZ,fun b=>b=p'.blk∨∃ m:Nat,BZ[m]? =some (Value.map (some b))⟩
  have cz: ∀ {m:Nat} {z:Option KS},(ls.set i (some l))[m]? =some z -> (m=i/\ z=some l)∨(m≠i/\ ls[m]? =some z):=fun {m z} hm=>by
   rw [zG] at hm
   by_cases e:i=m
   ·subst e;simp [hi] at hm;exact .inl ⟨rfl,hm.symm⟩
   ·rw [yb e] at hm;exact .inr ⟨zAw e,hm⟩
  have SA:Ep W p2 n' (ls.set i (some l)) none BZ:=by
   refine ⟨rfl,by simp [BZ,hS.size],⟨Dz,ty,e1,by simpa [e2] using E6,by rw [e2];exact CU,fun m hm=>?_⟩,.inl rfl,fun m l1 hm=>?_,fun m hm=>?_,fun b hb=>?_,fun m m' b h1 h2=>?_⟩
   ·rw [yu] at hm
    show Dz[p'.off+m]? =BZ[m]?
    rw [e3,HN]
    by_cases e:i=m
    ·subst e;rw [yP (by simp),yP rfl];simp
    ·rw [yb (by simp;omega),yb e];exact Cp m hm
   ·rcases cz hm with ⟨rfl,e⟩ | ⟨Ap,hm⟩
    ·cases e;refine ⟨q.blk,by rw [HN,yP rfl],bf,.inr ⟨m,by rw [HN,yP rfl]⟩,es,AZ,{ hA with blk:=Ba bf hA.blk },fun x hx=>by cases hx⟩
    ·obtain ⟨b,k1,k2,k3,HV,c1,k4,_⟩:=hS.has m l1 hm;exact ⟨b,by rw [HN,yb (zAw Ap)];exact k1,k2,.inr ⟨m,by rw [HN,yb (zAw Ap)];exact k1⟩,HV,c1,{ k4 with blk:=Ba k2 k4.blk },fun x hx=>by cases hx⟩
   ·rcases cz hm with ⟨rfl,e⟩ | ⟨Ap,hm⟩
    ·cases e
    ·rw [HN,yb (zAw Ap)];exact hS.nil m hm
   ·rcases hb with hb | ⟨m,hm⟩
    ·exact .inl hb
    ·refine .inr ?_;have AC:=hm;rw [HN] at hm
     by_cases e:i=m
     ·subst e;exact ⟨i,l,by simp [hi],AC⟩
     ·rw [yb e] at hm;obtain ⟨l1,g1,_⟩:=hS.of_map hm;exact ⟨m,l1,by rw [zG,yb e];exact g1,AC⟩
   ·rw [HN] at h1 h2
    by_cases c1:i=m
    ·by_cases c2:i=m'
     ·omega
     ·rw [yP c1] at h1;rw [yb c2] at h2;cases h1;obtain ⟨_,_,g2,_⟩:=hS.of_map h2;exact absurd rfl (XS _ g2)
    ·rw [yb c1] at h1
     by_cases c2:i=m'
     ·rw [yP c2] at h2;cases h2;obtain ⟨_,_,g2,_⟩:=hS.of_map h1;exact absurd rfl (XS _ g2)
     ·rw [yb c2] at h2;exact hS.inj m m' b h1 h2
  have Eh: ∀ b,p2.foot b -> (p'.foot b∨q.foot b)/\ DD W b:=fun b hb=>by
   refine ⟨?_,SA.lies hb⟩;rcases hb with hb | ⟨m,hm⟩
   ·exact .inl (by rw [hb];exact hS.blk)
   ·rw [HN] at hm
    by_cases e:i=m
    ·rw [yP e] at hm;cases hm;exact .inr (by rw [eB])
    ·rw [yb e] at hm;exact .inl (hS.of_map hm).choose_spec.2.1
  obtain ⟨g1,g2⟩:=R.hr.merge (o':=.mo (.sets n' (ls.set i (some l)) none)) (p':=p2) Xl hK hp hJ hq hU Eh ⟨BZ,SA⟩
  have O:Bi (MS N S.h ρ) w ρ (MS N ((S.h.set k none).set j none++[some (.mo (.sets n' (ls.set i (some l)) none))]) (ρ++[p2])) W (ρ++[p2]):=
   ⟨fun b hb hm _=>hU.block b hb fun hx=>hm (.inr ⟨k,_,p',hK,hp,hx⟩),fun b hb=>hb.elim (fun h=>.inl (.inl h)) (fun h=>(g2.grow b h).imp .inr id),fun k q hk=>EC hk⟩
  refine ⟨⟨ρ++[p2],⟨g1,by simp [R.fr.1,Act.put],fun m hm=>?_⟩,g2,fun k q hk=>EC hk⟩,k,i,p',t,x,y,ho,hX,hp,hU⟩;have CN:m<S.fr.length:=by simpa using hm
  have e:(S.fr.map (Kt k S.h.length)).getD m .any=Kt k S.h.length (S.fr.getD m .any):=by simp [CN]
  show AO _ W ((S.fr.map (Kt k S.h.length)).getD m .any) _ _
  rw [e];have r0:=R.fr.2 m CN;cases hd:S.fr.getD m .any with
  | msl k1 m1 o1 n1=>
   rw [hd] at r0
   by_cases hc:k1=k
   ·have e2:Kt k S.h.length (.msl k1 m1 o1 n1)= .msl S.h.length m1 o1 n1:=by simp only [Kt,yP hc]
    rw [e2];rw [hc] at r0;obtain ⟨q0,cap,eD,XJ,u1,u2,u3⟩:=r0;have wA:q0=p':=yY (eD.symm.trans hp);subst wA;exact ⟨p2,cap,by rw [←R.hr.len];simp,XJ,u1,u2,u3⟩
   ·have e2:Kt k S.h.length (.msl k1 m1 o1 n1)= .msl k1 m1 o1 n1:=by simp only [Kt,yb hc]
    rw [e2];exact AO.out _ O r0
  | _=>rw [hd] at r0;exact AO.out _ O r0
end
end Go.Proofs.YtgkhhfnhacibcaaGreatDoor
namespace Go.Proofs.YtgkhhfnhacibcaaGreatDoor
abbrev zAh:=@List.mem_iff_getElem?
abbrev zAi:=@Array.getElem?_toList
abbrev zBP:=@Array.mem_toList_iff
end Go.Proofs.YtgkhhfnhacibcaaGreatDoor
namespace Go.Proofs.YtgkhhfnhacibcaaGreatDoor
open Go.RowKit
def Ox:DV:=.tup 0 (fun j=>([]:List DV).getD j .any)
theorem Rk {M:Nat -> Prop} {w:World} {ρ:List AN}:AO M w Ox ρ undef:=⟨#[],rfl,rfl,fun j hj=>absurd hj (yg j)⟩
def Do (fr:List DV) (dst:Option Nat) (d:DV):List DV:=match dst with
 | some t=>fr.set t d
 | none=>fr
section
variable {P:Program} {Γ:A9} {N:Nat -> Prop} {S:St} {ρ:List AN} {a:Act} {w:World}
theorem Ho (R:Ad P Γ N S ρ a w) (dst:Option Nat) {d:DV} {v:Value} (hv:AO (MS N S.h ρ) w d ρ v):Ad P Γ N ⟨Do S.fr dst d,S.h⟩ ρ (a.put dst v) w:=by
 refine ⟨R.hr,?_⟩;cases dst with
 | none=>exact R.fr
 | some t=>exact R.fr.set t hv
theorem Ms (R:Ad P Γ N S ρ a w) {d d':DV} {h':DH} {ext:Bool} {v:Value} {w':World} (dst:Option Nat) (G:C6 P Γ N S.h ρ w ext d h' v w') (hd: ∀ M ρ',AO M w' d ρ' v -> AO M w' d' ρ' v):
 ∃ ρ',Ad P Γ N ⟨Do S.fr dst d',h'⟩ ρ' (a.put dst v) w'/\ Cr S.h ρ w h' ρ' w':=by
 obtain ⟨ρ',g1,g2,g3,g4⟩:=G.ex;have O:Bi (MS N S.h ρ) w ρ (MS N h' ρ') w' ρ':=⟨fun b hb hm _=>g3.upd.block b hb fun hx=>hm (.inr hx),fun b hb=>hb.elim (fun h=>.inl (.inl h)) (fun h=>(g3.grow b h).imp .inr id),g4⟩;have R':Ad P Γ N ⟨S.fr,h'⟩ ρ' a w':=⟨g1,R.fr.out O⟩;exact ⟨ρ',Ho R' dst (hd _ _ g2),g3,g4⟩
end
def PO (P:Program) (t:TypeId):Option (TypeId×TypeId):=match P.underlying t with
 | some (.map k e)=>if QI P k then match P.info? e with
  | some i=>match i.zero with
   | some (.slice none 0 0)=>some (k,e)
   | _=>none
  | none=>none
  else none
 | _=>none
theorem bD {P:Program} {t k e:TypeId} (h:PO P t=some (k,e)):P.underlying t=some (.map k e)/\ F2 P k=some 1/\ ∀ w,(zeroValue e).run P w= .ok (.slice none 0 0) w:=by
 unfold PO at h;split at h
 ·rename_i k' e' hu;split at h
  ·rename_i hk;split at h
   ·rename_i i hi;split at h
    ·rename_i hz;cases h;exact ⟨hu,by unfold F2;rw [W6 hk],fun w=>by simp [zeroValue,typeInfo,hi,hz]⟩
    ·cases h
   ·cases h
  ·cases h
 ·cases h
def Nj (j q:Nat):DV -> DV
 | .mri k i=>if k=j then (if i=0 then .mri q 0 else .any) else .mri k i
 | d=>d
def Lf (f:Int -> List Int) (k:Int) (L:List Int):Int -> List Int:=fun x=>if x=k then L else f x
def PP (P:Program) (S:St) (o:Oper):Option (St×List Prop):=match o.op with
 | .makeMap t none=>match PO P t with
  | some _=>some (⟨Do S.fr o.dst (.mri S.h.length 0),S.h++[some (.mo (.rows (fun _=>[]) none))]⟩,[])
  | none=>none
 | .lookup t m k false=>match PO P t with
  | some _=>match Ac S.fr m,Ac S.fr k with
   | .mri j 0,.int .i64 x=>match S.h[j]? with
    | some (some (.mo (.rows f Br)))=>if Br.all (fun y=>!y.2.2) then some (⟨Do (S.fr.map (Nj j S.h.length)) o.dst (.mri S.h.length 1),S.h.set j none++[some (.mo (.rows f (some (x,f x,false))))]⟩,[]) else none
    | _=>none
   | _,_=>none
  | none=>none
 | .mapUpdate t m k y=>match PO P t with
  | some _=>match Ac S.fr m,Ac S.fr k,Ac S.fr y with
   | .mri j 0,.int .i64 x,.mri j' 1=>match S.h[j]? with
    | some (some (.mo (.rows f (some (x',L,_)))))=>if j'=j then some (⟨Do S.fr o.dst Ox,S.h.set j (some (.mo (.rows (Lf f x' L) none)))⟩,[x'=x]) else none
    | _=>none
   | _,_,_=>none
  | none=>none
 | .call c=>match c.callee with
  | .builtin .append=>match c.args.toList with
   | [x,y]=>match c.argTypes.toList with
    | [t,t']=>if t=t' then match J9 P t with
     | some (.ints,_,i,_)=>if 128<i.bytes then none else match Ac S.fr x,QH S (Ac S.fr y) with
      | .mse j 1 off n,some (ys,vy)=>match S.h[j]? with
       | some (some (.ints xs))=>some (⟨Do S.fr o.dst (.mse S.h.length 1 0 (n+ys.length)),S.h.set j none++[some (.ints (xs.drop off++ys))]⟩,[vy,0<ys.length,off+n=xs.length,n+ys.length<=Ax])
       | _=>none
      | .mri j 1,some (ys,vy)=>match S.h[j]? with
       | some (some (.mo (.rows f (some (x',L,_)))))=>some (⟨Do (S.fr.map (Nj j S.h.length)) o.dst (.mri S.h.length 1),S.h.set j none++[some (.mo (.rows f (some (x',L++ys,true))))]⟩,[vy,0<ys.length,L.length+ys.length<=Ax])
       | _=>none
      | _,_=>none
     | _=>none
     else none
    | _=>none
   | _=>none
  | _=>none
 | _=>none
theorem m7 {P:Program} {S:St} {o:Oper} {r:St×List Prop} (h:PP P S o=some r) {t:TypeId} {x y:Operand}:o.op≠.store t x y:=by
 intro e;unfold PP at h;rw [e] at h;cases h
theorem B8.map {M:Nat -> Prop} {w:World} {ρ:List AN} {fr:List DV} {t:Array Value} (h:B8 M w ρ fr t) {g:DV -> DV} (hg: ∀ d v,AO M w d ρ v -> AO M w (g d) ρ v):B8 M w ρ (fr.map g) t:=
 ⟨by simp [h.1],fun i hi=>by
  have BN:i<fr.length:=by simpa using hi
  have e:(fr.map g).getD i .any=g (fr.getD i .any):=by simp [BN]
  rw [e];exact hg _ _ (h.2 i BN)⟩
section
variable {P:Program} {Γ:A9} {N:Nat -> Prop} {S:St} {ρ:List AN} {a:Act} {w w':World} {p p':AN} {f:Int -> List Int} {Br:Option (Int×List Int×Bool)} {u:Value} {es:Array MapEntry} {AZ:Nat}
theorem cR (h:EF w p f Br u es AZ) {kt:TypeId} (hk:P.underlying kt=some (.int .i64)) (x:Int):
 ((Instr.findKey kt (.int .i64 x) es.toList).run P w= .ok none w/\ ∀ e∈es.toList,e.key≠.int .i64 x)∨∃ j e,(Instr.findKey kt (.int .i64 x) es.toList).run P w= .ok (some (j,e.val)) w/\ es[j]? =some e/\ e.key= .int .i64 x:=by
 rcases MapKept.findNow_spec (d:=.int .i64) (k:=.int .i64 x) (by trivial) es.toList 0 (fun e hm=>by
  obtain ⟨k,hk,_⟩:=h.key e hm;rw [hk];trivial) with ⟨h1,h2⟩ | ⟨j,e,h1,h2,h3⟩
 ·exact .inl ⟨zA2 hk h1,h2⟩
 ·exact .inr ⟨j,e,by have:=zA2 (w:=w) hk h1;rw [yt] at this;exact this,by simpa using h2,h3⟩
theorem Sz (R:Ad P Γ N S ρ a w) {j i:Nat} {v:Value} (hk:S.h[j]? =some (some (.mo (.rows f Br)))) (hv:AO (MS N S.h ρ) w (.mri j i) ρ v): ∃ p u es AZ,ρ[j]? =some p/\ EF w p f Br u es AZ/\ (#[Value.map (some p.blk),u]:Array Value)[i]? =some v:=by
 obtain ⟨p,vs,hp,E4,Ch⟩:=hv;obtain ⟨p',BJ,u,es,AZ,h1⟩:=R.hr.obj j _ hk;have:p'=p:=yY (BJ.symm.trans hp);subst this;have: #[Value.map (some p'.blk),u]=vs:=by have:=h1.val.symm.trans E4;cases this;rfl
 subst this;exact ⟨p',u,es,AZ,hp,h1,Ch⟩
theorem EF.lies (h:EF w p f Br u es AZ):DD w p.blk:=⟨_,rfl,(),h.blk⟩
theorem bC (R:Ad P Γ N S ρ a w) {j:Nat} (hj:S.h[j]? =some (some (.mo (.rows f Br)))) (hp:ρ[j]? =some p) (hO:EF w p f Br u es AZ) {f':Int -> List Int} {II:Option (Int×List Int×Bool)} {u':Value} {Dk:Array MapEntry} {EV:Nat}
 (hu:AQ p.foot w w') (hf: ∀ b,p'.foot b -> (p.foot b∨w.heap.size<=b)/\ DD w' b) (Qd:EF w' p' f' II u' Dk EV) (X2:p'.blk=p.blk) (dst:Option Nat):
 ∃ ρ',Ad P Γ N ⟨Do (S.fr.map (Nj j S.h.length)) dst (.mri S.h.length 1),S.h.set j none++[some (.mo (.rows f' II))]⟩ ρ' (a.put dst u') w'/\ Cr S.h ρ w (S.h.set j none++[some (.mo (.rows f' II))]) ρ' w':=by
 obtain ⟨g1,g2⟩:=R.hr.regrow (o':=.mo (.rows f' II)) hj hp hu hf ⟨u',Dk,EV,Qd⟩;have FK: ∀ (k:Nat) (q:AN),ρ[k]? =some q -> (ρ++[p'])[k]? =some q:=fun k q hk=>EC hk
 have O:Bi (MS N S.h ρ) w ρ (MS N (S.h.set j none++[some (.mo (.rows f' II))]) (ρ++[p'])) w' (ρ++[p']):=
  ⟨fun b hb hm _=>hu.block b hb fun hx=>hm (.inr ⟨j,_,p,hj,hp,hx⟩),fun b hb=>hb.elim (fun h=>.inl (.inl h)) (fun h=>(g2.grow b h).imp .inr id),FK⟩
 have hq:(ρ++[p'])[S.h.length]? =some p':=by rw [←R.hr.len];simp
 have Di:=(R.fr.out O).map (g:=Nj j S.h.length) (fun d v hd=>by
  unfold Nj;split
  ·rename_i k i;split
   ·rename_i e;split
    ·rename_i e2;subst e e2;obtain ⟨q,vs,h1,h2,h3⟩:=hd;have:q=p:=yY (h1.symm.trans (FK _ _ hp));subst this;have e3: #[Value.map (some q.blk),u]=vs:=by have:=hO.val.symm.trans h2;cases this;rfl
     subst e3;exact ⟨p',_,hq,Qd.val,by rw [X2];simpa using h3⟩
    ·trivial
   ·exact hd
  ·exact hd)
 exact ⟨ρ++[p'],Ho (S:=⟨S.fr.map (Nj j S.h.length),_⟩) ⟨g1,Di⟩ dst ⟨p',_,hq,Qd.val,rfl⟩,g2,FK⟩
theorem oZ (h:EF w p f Br u es AZ) (hh: ∀ k L,Br≠some (k,L,true)) {t kt et:TypeId} (hm:P.underlying t=some (.map kt et)) (hk:F2 P kt=some 1) (hz:(zeroValue et).run P w= .ok (.slice none 0 0) w) (x:Int):
 ∃ u',(Instr.lookup t (.map (some p.blk)) (.int .i64 x) false).run P w= .ok u' w/\ EF w { p with val:=.tuple #[Value.map (some p.blk),u'] } f (some (x,f x,false)) u' es AZ:=by
 have hu:P.underlying kt=some (.int .i64):=by
  rcases Nq hk with ⟨_,hu⟩ | ⟨_,_,_,h2,_⟩
  ·exact hu
  ·cases h2
 have hc:=fun e=>Np (w:=w) hk (x:=[x]) rfl e
 have mk: ∀ u',(G4 w (fun b=>p.foot b/\ b≠p.blk) u' (f x)/\ ∀ e∈es.toList,∀ b,Cw u'=some b -> Cw e.val=some b -> e.key= .int .i64 x) -> EF w { p with val:=.tuple #[Value.map (some p.blk),u'] } f (some (x,f x,false)) u' es AZ:=fun u' Be=>
  ⟨rfl,h.blk,h.own,fun e he=>let ⟨k,h1,h2⟩:=h.key e he;⟨k,h1,fun _=>h2 fun L=>hh k L⟩,h.no,h.nd,h.apart,h.born,h.stamps,fun k L g e=>by cases e;exact Be⟩
 rcases cR h hu x with ⟨h1,h2⟩ | ⟨j,e,h1,h2,h3⟩
 ·refine ⟨.slice none 0 0,?_,mk _ ⟨.inl ⟨h.no x h2,rfl⟩,fun e _ b hb=>by cases hb⟩⟩;have Mm:=hc es.isEmpty;simp only [BL] at Mm;simp [Instr.lookup,zI hm,zq h.blk,Mm,h1,hz,Result.andThen]
 ·have CN:e∈es.toList:=zBP.2 (zAC h2);obtain ⟨k,g1,g2⟩:=h.key e CN;have:k=x:=by rw [g1] at h3;cases h3;rfl
  subst this;refine ⟨e.val,?_,mk _ ⟨g2 fun L=>hh k L,fun e' F9 b hb Cq=>(h.apart e' F9 e CN b Cq hb).trans h3⟩⟩;have Mm:=hc es.isEmpty;simp only [BL] at Mm;simp [Instr.lookup,zI hm,zq h.blk,Mm,h1,Result.andThen]
theorem aX {F:Nat -> Prop} {L:List Int} (hs:G4 w F u L) {t e ty:TypeId} {i:TypeInfo} {z:Value} (hu:P.underlying t=some (.slice e)) (hi:P.info? e=some i) (hz:i.zero=some z) (A5:i.size=1) (CT:z.cells.size=i.size) (DK:i.bytes<=128)
 {vy:Value} {ys:List Int} (hy:Src P i.size t vy ys.length (ys.map (Value.int .i64)) w) (hc:0<ys.length) (hb:L.length+ys.length<=Ax):
 ∃ w' q Bv,(Builtin.append_ #[t,t] ty #[u,vy]).run P w= .ok (.slice (some ⟨q.blk,q.off,none⟩) (L++ys).length Bv) w'/\ (L++ys).length<=Bv/\ q.off+Bv<=q.room/\ AQ (fun b=>Cw u=some b) w w'/\ (Cw u=some q.blk∨w.heap.size<=q.blk)/\ Ak w' q (L++ys).length (fun j v=>v= .int .i64 ((L++ys).getD j 0)):=by
 have Ay:(L++ys).length=L.length+ys.length:=yz;rcases hs with ⟨rfl,rfl⟩ | ⟨q,cap,rfl,h1,h2,h3,h4,h5⟩
 ·obtain ⟨w',Bv,r1,r2,cs,rfl,r4,r5⟩:=Y4 none (ty:=ty) hu hi hz CT DK hy hc (by unfold Ax at hb;simp at hb;omega);rw [A5,zR] at r4;refine ⟨_,Dr w cs.size,Bv,by simpa [Dr] using r1,by simpa using r2,by simp [Dr,r4],AQ.ofExt ((Au.toDrew w).allocR _),.inr (ym _),Lt rfl (by simp;omega) fun j hj=>?_⟩;have BM:j<ys.length:=by simpa using hj
  refine ⟨.int .i64 (ys.getD j 0),?_,by simp⟩;rw [r5 j (by rw [A5,zR];exact BM)];simp [BM]
 ·obtain ⟨w',q',Bv,r1,r2,r3,r4,r5,r6⟩:=Y0 (ty:=ty) (R:=fun j v=>v= .int .i64 (L.getD j 0)) (cap:=cap) hu hi hz (by omega) CT DK (by rw [A5,zR];exact h5) h1 (by rw [A5,zR];exact h2) hy (by unfold Ax at hb;omega);rw [A5,zR] at r3;have hq:q.foot=(fun b=>b=q.blk):=h5.1;have hR:=W5 (P:=P) (M:=fun _=>False) (ρ':=[]) A5 r6;refine ⟨w',q',Bv,by rw [Ay];exact r1,by rw [Ay];exact r2,r3,r4.mono fun b _ hb=>by rw [hq] at hb;rw [show b=q.blk from hb];rfl,?_,hR⟩;have N6:=r6.1;rcases r5 q'.blk (by rw [N6]) with e | e
  ·rw [hq] at e;exact .inl (by rw [show q'.blk=q.blk from e];rfl)
  ·exact .inr e
theorem oa (h:EF w p f Br u es AZ) {x:Int} {L:List Int} {g:Bool} (I4:Br=some (x,L,g)) (hl: ∀ b,p.foot b -> DD w b) {t e ty:TypeId} {i:TypeInfo} {z:Value} (hu:P.underlying t=some (.slice e)) (hi:P.info? e=some i) (hz:i.zero=some z) (A5:i.size=1) (CT:z.cells.size=i.size) (DK:i.bytes<=128)
 {vy:Value} {ys:List Int} (hy:Src P i.size t vy ys.length (ys.map (Value.int .i64)) w) (hc:0<ys.length) (hb:L.length+ys.length<=Ax):
 ∃ w' u' p',(Builtin.append_ #[t,t] ty #[u,vy]).run P w= .ok u' w'/\ AQ p.foot w w'/\ (∀ b,p'.foot b -> (p.foot b∨w.heap.size<=b)/\ DD w' b)/\ EF w' p' f (some (x,L++ys,true)) u' es AZ/\ p'.blk=p.blk:=by
 obtain ⟨hs,hd⟩:=h.inHand x L g I4;have Ay:(L++ys).length=L.length+ys.length:=yz;have Wj:=aX (ty:=ty) hs hu hi hz A5 CT DK hy hc hb;obtain ⟨w',q,Bv,r1,r2,r3,r4,r5,r6⟩:=Wj;have Lg: ∀ b,Cw u=some b -> (p.foot b/\ b≠p.blk)/\ b<w.heap.size:=fun b hb=>hs.blk hb
 have keep: ∀ b,b<w.heap.size -> Cw u≠some b -> w'.heap[b]? =w.heap[b]? :=fun b hb hn=>r4.block b hb hn
 have MZ:Cw u≠some p.blk:=fun e=>(Lg _ e).1.2 rfl
 have XT:p.blk<w.heap.size:=(yR.1 h.blk).1;have XR:q.blk≠p.blk:=fun e=>r5.elim (fun e'=>MZ (by rw [←e];exact e')) (fun e'=>by omega)
 refine ⟨w',_,⟨p.blk,p.off,p.room,.tuple #[Value.map (some p.blk),.slice (some ⟨q.blk,q.off,none⟩) (L++ys).length Bv],fun b=>(p.foot b/\ Cw u≠some b)∨b=q.blk⟩,r1,r4.mono fun b _ hb=>(Lg b hb).1.1,fun b hb=>?_,?_,rfl⟩
 ·rcases hb with ⟨g1,g2⟩ | g1
  ·obtain ⟨c,t1,t2,hc⟩:=hl b g1;exact ⟨.inl g1,c,t1,t2,(keep b (yR.1 hc).1 g2).trans hc⟩
  ·obtain ⟨_,cs,tt,g,_⟩:=r6;subst g1;exact ⟨r5.imp (fun e=>(Lg _ e).1.1) id,.cells g⟩
 ·have GK: ∀ e'∈es.toList,∀ k,e'.key= .int .i64 k -> k≠x -> G4 w (fun b=>p.foot b/\ b≠p.blk) e'.val (f k):=fun e' he k hk J1=>by
   obtain ⟨k',h1,h2⟩:=h.key e' he;have:k'=k:=by rw [h1] at hk;cases hk;rfl
   subst this;exact h2 fun L' e=>by rw [I4] at e;cases e;exact J1 rfl
  refine ⟨rfl,(keep _ XT MZ).trans h.blk,.inl ⟨h.own,MZ⟩,fun e' he=>?_,h.no,h.nd,h.apart,h.born,h.stamps,fun k L' g' e'=>?_⟩
  ·obtain ⟨k,h1,_⟩:=h.key e' he;refine ⟨k,h1,fun hn=>?_⟩;have hk:k≠x:=fun e=>by subst e;exact hn _ rfl
   have ne: ∀ b,Cw e'.val=some b -> Cw u≠some b:=fun b hb Cq=>hk (by have:=hd e' he b Cq hb;rw [h1] at this;cases this;rfl)
   exact (GK e' he k h1 hk).out (fun b hf hb hl=>keep b hl (ne b hb)) fun b hf hb=>⟨.inl ⟨hf.1,ne b hb⟩,hf.2⟩
  ·cases e';refine ⟨.inr ⟨q,Bv,rfl,r2,r3,by unfold LB;unfold Ax at hb;omega,⟨.inr rfl,XR⟩,r6⟩,fun e' he b hb Cq=>?_⟩;cases hb;rcases r5 with r5 | r5
   ·exact hd e' he _ r5 Cq
   ·obtain ⟨k',h1,_⟩:=h.key e' he
    by_cases hk:k'=x
    ·subst hk;exact h1
    ·exact absurd ((GK e' he k' h1 hk).blk Cq).2 (Nat.not_lt.2 r5)
theorem oY (h:EF w p f Br u es AZ) {x:Int} {L:List Int} {g:Bool} (I4:Br=some (x,L,g)) {t kt et:TypeId} (hm:P.underlying t=some (.map kt et)) (hk:F2 P kt=some 1):
 ∃ w' Dk EV,(Instr.mapUpdate t (.map (some p.blk)) (.int .i64 x) u).run P w= .ok () w'/\ AQ (fun b=>b=p.blk) w w'/\ EF w' p (Lf f x L) none u Dk EV:=by
 have hu:P.underlying kt=some (.int .i64):=by
  rcases Nq hk with ⟨_,hu⟩ | ⟨_,_,_,h2,_⟩
  ·exact hu
  ·cases h2
 have hc:=Np (w:=w) hk (x:=[x]) rfl false;simp only [BL] at hc;obtain ⟨hs,hd⟩:=h.inHand x L g I4;have AU:p.blk<w.heap.size:=(yR.1 h.blk).1
 have mk: ∀ (Dk:Array MapEntry) (EV:Nat),(∀ e∈Dk.toList,(e.key= .int .i64 x/\ e.val=u)∨(e∈es.toList/\ e.key≠.int .i64 x)) -> (∃ e∈Dk.toList,e.key= .int .i64 x) -> (∀ e∈es.toList,e.key≠.int .i64 x -> e∈Dk.toList) -> MapKept.Stamped Dk EV ->
  EF { w with heap:=w.heap.setIfInBounds p.blk (.map Dk EV) } p (Lf f x L) none u Dk EV:=fun Dk EV m1 m2 m3 st=>by
  have stay: ∀ b,b≠p.blk -> (w.heap.setIfInBounds p.blk (.map Dk EV))[b]? =w.heap[b]? :=fun b hb=>by simp [zAw hb]
  have GK: ∀ e'∈es.toList,∀ k,e'.key= .int .i64 k -> k≠x -> G4 w (fun b=>p.foot b/\ b≠p.blk) e'.val (f k):=fun e' he k hk J1=>by
   obtain ⟨k',h1,h2⟩:=h.key e' he;have:k'=k:=by rw [h1] at hk;cases hk;rfl
   subst this;exact h2 fun L' e=>by rw [I4] at e;cases e;exact J1 rfl
  refine ⟨h.val,by simp [AU],h.own,fun e he=>?_,fun k Co=>?_,st.2.2,fun e he e' F9 b hb Cq=>?_,st.1,st.2.1,fun k L' g' e=>by cases e⟩
  ·rcases m1 e he with ⟨a1,a2⟩ | ⟨a1,a2⟩
   ·refine ⟨x,a1,fun _=>?_⟩;rw [a2];unfold Lf;rw [yP rfl];exact hs.out (fun b hf _ _=>stay b hf.2) fun _ h _=>h
   ·obtain ⟨k,h1,_⟩:=h.key e a1;have J1:k≠x:=fun e'=>a2 (by rw [h1,e'])
    refine ⟨k,h1,fun _=>?_⟩;unfold Lf;rw [yb J1];exact (GK e a1 k h1 J1).out (fun b hf _ _=>stay b hf.2) fun _ h _=>h
  ·have J1:k≠x:=fun e=>by subst e;obtain ⟨e,h1,h2⟩:=m2;exact Co e h1 h2
   unfold Lf;rw [yb J1];refine h.no k fun e he eU=>?_
   exact Co e (m3 e he fun h=>J1 (by rw [eU] at h;cases h;rfl)) eU
  ·rcases m1 e he with ⟨a1,a2⟩ | ⟨a1,a2⟩
   ·rcases m1 e' F9 with ⟨b1,b2⟩ | ⟨b1,b2⟩
    ·rw [a1,b1]
    ·rw [a2] at hb;exact a1.trans (hd e' b1 b hb Cq).symm
   ·rcases m1 e' F9 with ⟨b1,b2⟩ | ⟨b1,b2⟩
    ·rw [b2] at Cq;exact (hd e a1 b Cq hb).trans b1.symm
    ·exact h.apart e a1 e' b1 b hb Cq
 have st:MapKept.Stamped es AZ:=⟨h.born,h.stamps,h.nd⟩;rcases cR h hu x with ⟨h1,h2⟩ | ⟨j,e,h1,h2,h3⟩
 ·refine ⟨_,es.push { key:=.int .i64 x,val:=u,born:=AZ },AZ+1,?_,Ow _,mk _ _ (fun e he=>?_) ⟨{ key:=.int .i64 x,val:=u,born:=AZ },by simp,rfl⟩ (fun e he _=>by simp [zBP.1 he]) (MapKept.stamped_push st h2)⟩
  ·simp [Instr.mapUpdate,zI hm,zq h.blk,hc,h1,zAd _ h.blk,Result.andThen]
  ·simp only [Array.toList_push,zP,yp] at he;rcases he with he | rfl
   ·exact .inr ⟨he,h2 e he⟩
   ·exact .inl ⟨rfl,rfl⟩
 ·have Dv:((es[j]?).map (·.key)).getD (.int .i64 x)= .int .i64 x:=by rw [h2];exact h3
  have D9:=MapKept.run_keyThatStays (P:=P) (w:=w) (d:=.int .i64) (k:=.int .i64 x) (by trivial);have hj:j<es.size:=(yR.1 h2).1
  have inj: ∀ (m:Nat) (e':MapEntry),es[m]? =some e' -> e'.key= .int .i64 x -> m=j:=fun m e' CN Co=>by
   have FL:m<es.size:=(yR.1 CN).1;have g1:(es.toList.map (·.key))[m]? =some (.int .i64 x):=by simp [CN,Co]
   have g2:(es.toList.map (·.key))[j]? =some (.int .i64 x):=by simp [h2,h3]
   exact (List.getElem?_inj (by simpa using FL) h.nd).1 (g1.trans g2.symm)
  have IE: ∀ (m:Nat),(es.modify j fun e=>{ e with key:=.int .i64 x,val:=u })[m]? =if j=m then (es[m]?).map (fun e=>{ e with key:=.int .i64 x,val:=u }) else es[m]? :=fun m=>zAP
  refine ⟨_,es.modify j fun e=>{ e with key:=.int .i64 x,val:=u },AZ,?_,Ow _,mk _ _ (fun e1 Xu=>?_) ⟨{ e with key:=.int .i64 x,val:=u },?_,rfl⟩ (fun e1 Xu Ap=>?_) (MapKept.stamped_modify st _ _ (fun _ _=>rfl) fun e' _ F9=>by rw [h2] at F9;cases F9;exact h3.symm)⟩
  ·simp [Instr.mapUpdate,zI hm,zq h.blk,hc,h1,Dv,D9,zAd _ h.blk,Result.andThen]
  ·obtain ⟨m,CN⟩:=zAh.1 Xu;rw [zAi,IE] at CN;split at CN
   ·rename_i Xo;subst Xo;rw [h2] at CN;cases CN;exact .inl ⟨rfl,rfl⟩
   ·rename_i Xo;exact .inr ⟨zBP.2 (zAC CN),fun Co=>Xo (inj m e1 CN Co).symm⟩
  ·exact zAh.2 ⟨j,by rw [zAi,IE,yP rfl,h2];rfl⟩
  ·obtain ⟨m,CN⟩:=zAh.1 Xu;rw [zAi] at CN;refine zAh.2 ⟨m,by rw [zAi,IE,yb];exact CN;rintro rfl;rw [h2] at CN;cases CN;exact Ap h3⟩
theorem pR (R:Ad P Γ N S ρ a w) {j off n:Nat} {xs:List Int} {v:Value} (hO:S.h[j]? =some (some (.ints xs))) (hv:AO (MS N S.h ρ) w (.mse j 1 off n) ρ v) (hn:off+n=xs.length) {t e ty:TypeId} {i:TypeInfo} {z:Value} (hu:P.underlying t=some (.slice e)) (hi:P.info? e=some i) (hz:i.zero=some z) (A5:i.size=1) (CT:z.cells.size=i.size) (DK:i.bytes<=128)
 {vy:Value} {ys:List Int} (hy:Src P i.size t vy ys.length (ys.map (Value.int .i64)) w) (hc:0<ys.length) (hb:n+ys.length<=Ax):
 ∃ u w' p' Bv,v=u/\ (Builtin.append_ #[t,t] ty #[u,vy]).run P w= .ok (.slice (some ⟨p'.blk,p'.off,none⟩) (n+ys.length) Bv) w'/\ n+ys.length<=Bv/\ p'.off+Bv<=p'.room/\ (∃ p,ρ[j]? =some p/\ AQ p.foot w w'/\ ∀ b,p'.foot b -> (p.foot b∨w.heap.size<=b)/\ DD w' b)/\
  (∀ {M ρ'},Db P M w' ρ' p' (.ints (xs.drop off++ys)))/\ True:=by
 obtain ⟨p,ad,cap,hp,rfl,h1,h2,h3⟩:=hv;obtain ⟨p2,Ma,hr⟩:=R.hr.obj j _ hO;have:p2=p:=yY (Ma.symm.trans hp);subst this;have Mi:(xs.drop off).length=n:=by simp;omega
 have Wj: ∃ w' p' Bv,(Builtin.append_ #[t,t] ty #[.slice ad n cap,vy]).run P w= .ok (.slice (some ⟨p'.blk,p'.off,none⟩) (n+ys.length) Bv) w'/\ n+ys.length<=Bv/\ p'.off+Bv*i.size<=p'.room/\ AQ p2.foot w w'/\ (∀ b,p'.foot b -> p2.foot b∨w.heap.size<=b)/\ Ak w' p' ((n+ys.length)*i.size) (Hb (n*i.size) (fun j u=>u= .int .i64 ((xs.drop off).getD j 0)) (ys.map (Value.int .i64))):=by
  by_cases K9:cap=0
  ·subst K9;have HQ:n=0:=by omega
   subst HQ;obtain ⟨w',Bv,r1,r2,cs,rfl,r4,r5⟩:=Y4 ad (ty:=ty) hu hi hz CT DK hy hc (by unfold Ax at hb;omega);refine ⟨_,Dr w cs.size,Bv,by simpa [Dr] using r1,by omega,by simp [Dr,r4],AQ.ofExt ((Au.toDrew w).allocR _),fun b hb=>.inr (Nat.le_of_eq (Eq.symm hb)),Lt rfl ?_ fun j hj=>?_⟩
   ·rw [r4];exact z7 _ (by omega)
   ·rw [yt] at hj;refine ⟨(ys.map (Value.int .i64)).getD j undef,?_,?_⟩
    ·rw [r5 j hj];rw [A5,zR] at hj;simp [hj]
    ·rw [A5,zR] at hj;unfold Hb;rw [yb (by omega)];simp [hj]
  ·obtain ⟨rfl,h4⟩:=h3 (by omega);obtain ⟨c1,cs,tt,c2,c3,c4,c5⟩:=hr
   exact Y0 (ty:=ty) (p:={ p2 with off:=p2.off+off*1 }) (cap:=cap) hu hi hz (by omega) CT DK (R:=fun j u=>u= .int .i64 ((xs.drop off).getD j 0)) (by
    refine ⟨c1,cs,tt,c2,?_,c4,fun j hj=>?_⟩
    ·rw [A5];show p2.off+off*1+n*1<=cs.size;omega
    ·rw [A5,zR] at hj;obtain ⟨u,q1,q2⟩:=c5 (off+j) (by omega);refine ⟨u,by show cs[p2.off+off*1+j]? =_;rw [show p2.off+off*1+j=p2.off+(off+j) by omega];exact q1,?_⟩;rw [q2];simp [u8]) h1 (by rw [A5];simpa using h4) hy (by unfold Ax at hb;omega)
 obtain ⟨w',p',Bv,r1,r2,r3,r4,r5,r6⟩:=Wj;rw [A5,zR] at r3;refine ⟨_,w',p',Bv,rfl,r1,r2,r3,⟨p2,hp,r4,fun b hb=>⟨r5 b hb,?_⟩⟩,fun {M ρ'}=>W5 (xs:=xs.drop off) (ys:=ys) A5 (by rw [Mi];exact r6),trivial⟩;obtain ⟨e1,cs,tt,e2,_⟩:=r6;rw [e1] at hb;exact .cells (c:=cs) (t:=tt) (z:=(0,0)) (by rw [show b=p'.blk from hb];exact e2)
theorem m6 (R:Ad P Γ N S ρ a w) {o:Oper} {S':St} {vs:List Prop} (h:PP P S o=some (S',vs)) (hv:Bl vs):
 BT P (execOp a.eval o) w (fun v w'=>∃ ρ',Ad P Γ N S' ρ' (a.put o.dst v) w'/\ Cr S.h ρ w S'.h ρ' w'):=by
 unfold PP at h;split at h
 ·rename_i t ho;split at h
  ·rename_i r hT;cases h;refine BT.value (s:=Instr.makeMap t none) (by unfold execOp;rw [ho];rfl) (v:=.map (some w.heap.size)) (w':=w.alloc (.map #[] 0)) (by simp [Instr.makeMap,newObj];rfl) ?_;have G:=Qh (ob:=.map #[] 0) (o:=.mo (.rows (fun _=>[]) none)) (d:=.mri S.h.length 0) (v:=.map (some w.heap.size)) (pl:=⟨w.heap.size,0,0,.tuple #[.map (some w.heap.size),undef],fun b=>b=w.heap.size⟩) R.hr rfl rfl (fun M ρ'=>⟨undef,#[],0,rfl,zAM w _,rfl,fun e he=>absurd he (by simp),fun _ _=>rfl,by simp,fun e he=>absurd he (by simp),fun e he=>absurd he (by simp),by simp,fun k L g e=>by cases e⟩) (fun M ρ' hp=>⟨_,_,hp,rfl,rfl⟩) true;exact Ms R o.dst G fun _ _ h=>h
  ·cases h
 ·rename_i t m k ho;split at h
  ·rename_i r hT;obtain ⟨kt,et⟩:=r;obtain ⟨hu,hk,hz⟩:=bD hT;have rm:=Bm R m;have rk:=Bm R k;split at h
   ·rename_i j x hM hK;split at h
    ·rename_i f Br hO;split at h
     ·rename_i hh;cases h;rw [hM] at rm;rw [hK] at rk;obtain ⟨p,u,es,AZ,hp,hA,Ch⟩:=Sz R hO rm;have em:a.eval m= .map (some p.blk):=by simpa using Ch.symm
      have ek:a.eval k= .int .i64 x:=rk;obtain ⟨u',g1,g2⟩:=oZ hA (fun k L e=>by subst e;simp at hh) hu hk (hz w) x;refine BT.value (s:=Instr.lookup t (a.eval m) (a.eval k) false) (by unfold execOp;rw [ho]) (by rw [em,ek];exact g1) ?_;exact bC (p':={ p with val:=.tuple #[Value.map (some p.blk),u'] }) R hO hp hA (AQ.refl _ _) (fun b hb=>⟨.inl hb,(R.hr.cel j _ p b hO hp hb).2.2⟩) g2 rfl o.dst
     ·cases h
    ·cases h
   ·cases h
  ·cases h
 ·rename_i t m k y ho;split at h
  ·rename_i r hT;obtain ⟨kt,et⟩:=r;obtain ⟨hu,hk,hz⟩:=bD hT;have rm:=Bm R m;have rk:=Bm R k;have ry:=Bm R y;split at h
   ·rename_i j x j' hM hK hY;split at h
    ·rename_i f x' L g hO;split at h
     ·rename_i hj;cases h;subst hj;have hx:x'=x:=hv.1;subst hx;rw [hM] at rm;rw [hK] at rk;rw [hY] at ry;obtain ⟨p,u,es,AZ,hp,hA,Ch⟩:=Sz R hO rm;obtain ⟨p2,u2,es2,clock2,Ma,vD,re⟩:=Sz R hO ry;have:p2=p:=yY (Ma.symm.trans hp);subst this;have eu:u2=u:=by have:=vD.val.symm.trans hA.val;simp at this;exact this
      have em:a.eval m= .map (some p2.blk):=by simpa using Ch.symm
      have ek:a.eval k= .int .i64 x':=rk;have ey:a.eval y=u:=by rw [←eu];simpa using re.symm
      obtain ⟨w',Dk,EV,g1,g2,g3⟩:=oY hA rfl hu hk;refine BT.skip (s:=Instr.mapUpdate t (a.eval m) (a.eval k) (a.eval y)) (by unfold execOp;rw [ho]) (w':=w') (by rw [em,ek,ey];exact g1) ?_;have K3:AQ p2.foot w w':=g2.mono fun b _ hb=>by rw [show b=p2.blk from hb];exact hA.own
      have hl: ∀ b,p2.foot b -> DD w' b:=fun b hb=>by
       by_cases e:b=p2.blk
       ·rw [e];exact g3.lies
       ·obtain ⟨c,t1,t2,hc⟩:=(R.hr.cel _ _ p2 b hO hp hb).2.2;exact ⟨c,t1,t2,(g2.block b (yR.1 hc).1 e).trans hc⟩
      have G:C6 P Γ N S.h ρ w false Ox (S.h.set j' (some (.mo (.rows (Lf f x' L) none)))) undef w':=⟨⟨ρ,R.hr.write hO hp K3 hl ⟨u,Dk,EV,g3⟩,Rk,BO.write hO hp K3,fun _ _ h=>h⟩,fun h=>by cases h⟩;exact Ms R o.dst G fun _ _ h=>h
     ·cases h
    ·cases h
   ·cases h
  ·cases h
 ·rename_i c ho;split at h
  ·rename_i hc;split at h
   ·rename_i x y ha;split at h
    ·rename_i t t' ht;split at h
     ·rename_i e;subst e;split at h
      ·rename_i e i z hk;obtain ⟨hu,hi,hz,h0,CT,Dv,_⟩:=Qv hk;have Cc:i.size=1:=Dv.symm;split at h
       ·cases h
       ·rename_i DK;have rx:=Bm R x;have ry:=Bm R y;split at h
        ·rename_i j off n ys vy hX hY;split at h
         ·rename_i xs hO;cases h;obtain ⟨v1,v2,v3,v4,_⟩:=hv;rw [hX] at rx;obtain ⟨ad,w',p',Bv,e0,g1,g2,g3,g4,g5,_⟩:=pR (ty:=o.type) R hO rx v3 hu hi hz Cc CT (by omega) (by rw [Cc];exact QG R hu ry hY v1) v2 v4;refine BT.value (Qp ho hc ha ht) (by rw [e0];exact g1) ?_;obtain ⟨p,hp⟩:=g4;obtain ⟨q1,q2⟩:=R.hr.regrow (o':=.ints (xs.drop off++ys)) hO hp.1 hp.2.1 hp.2.2 g5
          have G:C6 P Γ N S.h ρ w false (.mse S.h.length 1 0 (n+ys.length)) (S.h.set j none++[some (.ints (xs.drop off++ys))]) (.slice (some ⟨p'.blk,p'.off,none⟩) (n+ys.length) Bv) w':=
           ⟨⟨ρ++[p'],q1,⟨p',_,Bv,by rw [←R.hr.len];simp,rfl,g2,by unfold LB;unfold Ax at v4;omega,fun _=>⟨by simp,by simpa using g3⟩⟩,q2,fun _ _ h=>EC h⟩,fun h=>by cases h⟩
          exact Ms R o.dst G fun _ _ h=>h
         ·cases h
        ·rename_i j ys vy hX hY;split at h
         ·rename_i f x' L g hO;cases h;obtain ⟨v1,v2,v3,_⟩:=hv;rw [hX] at rx;obtain ⟨p,u,es,AZ,hp,hA,Ch⟩:=Sz R hO rx;have ex:a.eval x=u:=by simpa using Ch.symm
          obtain ⟨w',u',p',g1,g2,g3,g4,g5⟩:=oa (ty:=o.type) hA rfl (fun b hb=>(R.hr.cel j _ p b hO hp hb).2.2) hu hi hz Cc CT (by omega) (by rw [Cc];exact QG R hu ry hY v1) v2 v3;refine BT.value (Qp ho hc ha ht) (by rw [ex];exact g1) ?_;exact bC R hO hp hA g2 g3 g4 g5 o.dst
         ·cases h
        ·cases h
      ·cases h
     ·cases h
    ·cases h
   ·cases h
  ·cases h
 ·cases h
def VQ (P:Program) (S:St) (o:Oper):Option (St×List Prop):=match VR P S o with
 | some r=>some r
 | none=>PP P S o
theorem aM (R:Ad P Γ N S ρ a w) {o:Oper} {S':St} {vs:List Prop} (h:VQ P S o=some (S',vs)) (hv:Bl vs):
 BT P (execOp a.eval o) w (fun v w'=>(∃ ρ',Ad P Γ N S' ρ' (a.put o.dst v) w'/\ Cr S.h ρ w S'.h ρ' w')/\ ((∀ t x y,o.op≠.store t x y)∨∃ k i p t x y,o.op= .store t x y/\ Ac S.fr x= .mp k 1 i 0/\ ρ[k]? =some p/\ AQ p.foot w w')):=by
 have wk: ∀ {G G':Value -> World -> Prop},(∀ v w',G v w' -> G' v w') -> BT P (execOp a.eval o) w G -> BT P (execOp a.eval o) w G':=fun hg D=>by
  rcases D with ⟨v,w',h1,h2⟩ | ⟨w',h1,h2⟩ | ⟨f,args,w',h1,h2⟩
  ·exact .inl ⟨v,w',h1,hg _ _ h2⟩
  ·exact .inr (.inl ⟨w',h1,hg _ _ h2⟩)
  ·exact .inr (.inr ⟨f,args,w',h1,h2.mono fun e CC ⟨v,e1,e2⟩=>⟨v,e1,hg _ _ e2⟩⟩)
 unfold VQ at h;split at h
 ·rename_i r hM;cases h;exact wk (fun v w' hx=>⟨hx.1,.inr hx.2⟩) (j4 R hM hv)
 ·exact wk (fun v w' hx=>⟨hx,.inl fun t x y=>m7 h⟩) (m6 R h hv)
end
end Go.Proofs.YtgkhhfnhacibcaaGreatDoor
namespace Go.Proofs.YtgkhhfnhacibcaaGreatDoor
abbrev zU:=@List.getElem?_set_ne
abbrev zAX:=@Array.getElem?_setIfInBounds_ne
end Go.Proofs.YtgkhhfnhacibcaaGreatDoor
namespace Go.Proofs.YtgkhhfnhacibcaaGreatDoor
open Go.RowKit
def Vi (P:Program) (t:TypeId):Option (TypeId×TypeInfo):=match P.underlying t with
 | some (.slice e)=>match P.info? e with
  | some i=>match i.zero with
   | some (.slice none 0 0)=>if i.size=1/\ i.bytes<=128 then some (e,i) else none
   | _=>none
  | none=>none
 | _=>none
theorem mS {P:Program} {t e:TypeId} {i:TypeInfo} (h:Vi P t=some (e,i)):P.underlying t=some (.slice e)/\ P.info? e=some i/\ i.zero=some (.slice none 0 0)/\ i.size=1/\ i.bytes<=128:=by
 unfold Vi at h;split at h
 ·rename_i e' hu;split at h
  ·rename_i i' hi;split at h
   ·rename_i hz;split at h
    ·rename_i hc;cases h;exact ⟨hu,hi,hz,hc.1,hc.2⟩
    ·cases h
   ·cases h
  ·cases h
 ·cases h
def Ni (j q:Nat):DV -> DV
 | .msl k m o n=>if k=j then .msl q m o n else .msl k m o n
 | .mp k m i c=>if k=j then .mp q m i c else .mp k m i c
 | .mri k i=>if k=j then .any else .mri k i
 | d=>d
def Vj (P:Program) (S:St) (fz:List (Nat×Fz)) (o:Oper):Option (St×List Prop×List (Nat×Fz)):=match o.op with
 | .makeSlice t x y=>match fz with
  | (d,.rws)::rest=>if o.dst=some d then match Vi P t with
   | some _=>match Ac S.fr x,Ac S.fr y with
    | .int _ m,.int _ m'=>some (⟨Do S.fr o.dst (.msl S.h.length 1 0 m.toNat),S.h++[some (.mo (.rws (List.replicate m.toNat []) none))]⟩,[m'=m/\ 0<=m/\ m<=1000000000000],rest)
    | _,_=>none
   | none=>none
   else none
  | _=>none
 | .call c=>match c.callee with
  | .builtin .append=>match c.args.toList with
   | [x,y]=>match c.argTypes.toList with
    | [t,t']=>if t=t' then match J9 P t with
     | some (.ints,_,i,_)=>if 128<i.bytes then none else match Ac S.fr x,QH S (Ac S.fr y) with
      | .mri j (r+1),some (ys,vy)=>match S.h[j]? with
       | some (some (.mo (.rws ls none)))=>some (⟨Do (S.fr.map (Ni j S.h.length)) o.dst (.mri S.h.length 0),S.h.set j none++[some (.mo (.rws ls (some (r,ls.getD r default++ys))))]⟩,[vy,0<ys.length,r<ls.length,(ls.getD r default).length+ys.length<=Ax],fz)
       | _=>none
      | _,_=>none
     | _=>none
     else none
    | _=>none
   | _=>none
  | _=>none
 | .store t x y=>match o.dst with
  | none=>match Ac S.fr x,Ac S.fr y with
   | .mp j 1 r 0,.mri j' 0=>match S.h[j]? with
    | some (some (.mo (.rws ls (some (r',L)))))=>if j'=j/\ (P.info? t).any (fun i=>i.size==1)=true then some (⟨S.fr.map (Ni j S.h.length),S.h.set j none++[some (.mo (.rws (ls.set r L) none))]⟩,[r'=r,r<ls.length],fz) else none
    | _=>none
   | _,_=>none
  | some _=>none
 | _=>none
section
variable {P:Program} {Γ:A9} {N:Nat -> Prop} {S:St} {ρ:List AN} {a:Act} {w w':World} {p p':AN} {ls P6:List (List Int)} {Br II:Option (Nat×List Int)} {vs BZ:Array Value}
theorem ay (R:Ad P Γ N S ρ a w) {j i:Nat} {v:Value} (hk:S.h[j]? =some (some (.mo (.rws ls Br)))) (hv:AO (MS N S.h ρ) w (.mri j i) ρ v): ∃ p vs,ρ[j]? =some p/\ JG w p ls Br vs/\ vs[i]? =some v:=by
 obtain ⟨p,vs,hp,E4,Ch⟩:=hv;obtain ⟨p',BJ,BZ,h1⟩:=R.hr.obj j _ hk;have:p'=p:=yY (BJ.symm.trans hp);subst this;have:BZ=vs:=by have:=h1.val.symm.trans E4;cases this;rfl
 subst this;exact ⟨p',BZ,hp,h1,Ch⟩
theorem ax (R:Ad P Γ N S ρ a w) {j:Nat} (hj:S.h[j]? =some (some (.mo (.rws ls Br)))) (hp:ρ[j]? =some p) (hu:AQ p.foot w w') (hf: ∀ b,p'.foot b -> (p.foot b∨w.heap.size<=b)/\ DD w' b) (Qd:JG w' p' P6 II BZ)
 (e1:p'.blk=p.blk) (e2:p'.off=p.off) (e3:p'.room=p.room) (dst:Option Nat) {d:DV} {v:Value} (hd: ∀ M ρ',ρ'[S.h.length]? =some p' -> AO M w' d ρ' v):
 ∃ ρ',Ad P Γ N ⟨Do (S.fr.map (Ni j S.h.length)) dst d,S.h.set j none++[some (.mo (.rws P6 II))]⟩ ρ' (a.put dst v) w'/\ Cr S.h ρ w (S.h.set j none++[some (.mo (.rws P6 II))]) ρ' w':=by
 obtain ⟨g1,g2⟩:=R.hr.regrow (o':=.mo (.rws P6 II)) hj hp hu hf ⟨BZ,Qd⟩;have FK: ∀ (k:Nat) (q:AN),ρ[k]? =some q -> (ρ++[p'])[k]? =some q:=fun k q hk=>EC hk
 have O:Bi (MS N S.h ρ) w ρ (MS N (S.h.set j none++[some (.mo (.rws P6 II))]) (ρ++[p'])) w' (ρ++[p']):=
  ⟨fun b hb hm _=>hu.block b hb fun hx=>hm (.inr ⟨j,_,p,hj,hp,hx⟩),fun b hb=>hb.elim (fun h=>.inl (.inl h)) (fun h=>(g2.grow b h).imp .inr id),FK⟩
 have hq:(ρ++[p'])[S.h.length]? =some p':=by rw [←R.hr.len];simp
 have Di:=(R.fr.out O).map (g:=Ni j S.h.length) (fun d v hd=>by
  unfold Ni;split
  ·rename_i k m o n;split
   ·rename_i e;subst e;obtain ⟨q,cap,h1,h2,h3,h4,h5⟩:=hd;have:q=p:=yY (h1.symm.trans (FK _ _ hp));subst this;exact ⟨p',cap,hq,by rw [e1,e2];exact h2,h3,h4,by rw [e2,e3];exact h5⟩
   ·exact hd
  ·rename_i k m i c;split
   ·rename_i e;subst e;obtain ⟨q,h1,h2⟩:=hd;have:q=p:=yY (h1.symm.trans (FK _ _ hp));subst this;exact ⟨p',hq,by rw [e1,e2];exact h2⟩
   ·exact hd
  ·split
   ·trivial
   ·exact hd
  ·exact hd)
 exact ⟨ρ++[p'],Ho (S:=⟨S.fr.map (Ni j S.h.length),_⟩) ⟨g1,Di⟩ dst (hd _ _ hq),g2,FK⟩
theorem mR (h:JG w p ls none vs) {r:Nat} (hr:r<ls.length) (hl: ∀ b,p.foot b -> DD w b) {t e ty:TypeId} {i:TypeInfo} {z:Value} (hu:P.underlying t=some (.slice e)) (hi:P.info? e=some i) (hz:i.zero=some z) (A5:i.size=1) (CT:z.cells.size=i.size) (DK:i.bytes<=128)
 {vy:Value} {ys:List Int} (hy:Src P i.size t vy ys.length (ys.map (Value.int .i64)) w) (hc:0<ys.length) (hb:(ls.getD r default).length+ys.length<=Ax):
 ∃ w' u' p',(Builtin.append_ #[t,t] ty #[vs.getD (r+1) undef,vy]).run P w= .ok u' w'/\ AQ p.foot w w'/\ (∀ b,p'.foot b -> (p.foot b∨w.heap.size<=b)/\ DD w' b)/\ JG w' p' ls (some (r,ls.getD r default++ys)) (vs.setIfInBounds 0 u')/\ p'.blk=p.blk/\ p'.off=p.off/\ p'.room=p.room:=by
 have hs:=h.has r hr fun L e=>by cases e
 obtain ⟨w',q,Bv,r1,r2,r3,r4,r5,r6⟩:=aX (ty:=ty) hs hu hi hz A5 CT DK hy hc hb
 generalize hU:vs.getD (r+1) undef=u at*
 have Lg: ∀ b,Cw u=some b -> (p.foot b/\ b≠p.blk)/\ b<w.heap.size:=fun b hb=>hs.blk hb
 have keep: ∀ b,b<w.heap.size -> Cw u≠some b -> w'.heap[b]? =w.heap[b]? :=fun b hb hn=>r4.block b hb hn
 have MZ:Cw u≠some p.blk:=fun e=>(Lg _ e).1.2 rfl
 obtain ⟨cs,tt,k1,k2,k3,k4⟩:=h.row;have XT:p.blk<w.heap.size:=(yR.1 k1).1;have XR:q.blk≠p.blk:=fun e=>r5.elim (fun e'=>MZ (by rw [←e];exact e')) (fun e'=>by omega)
 have hv: ∀ j,(vs.setIfInBounds 0 (.slice (some ⟨q.blk,q.off,none⟩) (ls.getD r default++ys).length Bv)).getD (j+1) undef=vs.getD (j+1) undef:=fun j=>by
  simp [yn,zK]
 have K2:(vs.setIfInBounds 0 (.slice (some ⟨q.blk,q.off,none⟩) (ls.getD r default++ys).length Bv)).getD 0 undef= .slice (some ⟨q.blk,q.off,none⟩) (ls.getD r default++ys).length Bv:=by
  have:0<vs.size:=by rw [h.size];omega
  simp [yn,zK,this]
 have ne: ∀ j b,j<ls.length -> j≠r -> Cw (vs.getD (j+1) undef)=some b -> Cw u≠some b:=fun j b hj Ap hb Cq=>Ap (h.apart j r b hj hr (fun L e=>by cases e) (fun L e=>by cases e) hb (by rw [hU];exact Cq))
 refine ⟨w',_,⟨p.blk,p.off,p.room,.tuple (vs.setIfInBounds 0 (.slice (some ⟨q.blk,q.off,none⟩) (ls.getD r default++ys).length Bv)),fun b=>(p.foot b/\ Cw u≠some b)∨b=q.blk⟩,r1,r4.mono fun b _ hb=>(Lg b hb).1.1,fun b hb=>?_,?_,rfl,rfl,rfl⟩
 ·rcases hb with ⟨g1,g2⟩ | g1
  ·obtain ⟨c,t1,t2,hc⟩:=hl b g1;exact ⟨.inl g1,c,t1,t2,(keep b (yR.1 hc).1 g2).trans hc⟩
  ·obtain ⟨_,cs,tt,g,_⟩:=r6;subst g1;exact ⟨r5.imp (fun e=>(Lg _ e).1.1) id,.cells g⟩
 ·refine ⟨rfl,by simpa using h.size,⟨cs,tt,(keep _ XT MZ).trans k1,k2,k3,fun j hj=>?_⟩,.inl ⟨h.blk,MZ⟩,fun j hj hh=>?_,fun i j b hi hj _ _ h1 h2=>?_,fun k L e=>?_⟩
  ·rw [zAX (by omega)];exact k4 j hj
  ·have Ap:j≠r:=fun e=>hh _ (by rw [e])
   rw [hv];exact (h.has j hj fun L e=>by cases e).out (fun b hf hb hl=>keep b hl (ne j b hj Ap hb)) fun b hf hb=>⟨.inl ⟨hf.1,ne j b hj Ap hb⟩,hf.2⟩
  ·rw [hv] at h1 h2;exact h.apart i j b hi hj (fun L e=>by cases e) (fun L e=>by cases e) h1 h2
  ·cases e;rw [K2];refine ⟨.inr ⟨q,Bv,rfl,r2,r3,by unfold LB;unfold Ax at hb;simp only [yz];omega,⟨.inr rfl,XR⟩,r6⟩,fun j b hj hb Cq=>?_⟩;cases hb;rw [hv] at Cq;rcases r5 with r5 | r5
   ·exact h.apart j r q.blk hj hr (fun L e=>by cases e) (fun L e=>by cases e) Cq (by rw [hU];exact r5)
   ·exact absurd ((h.has j hj fun L e=>by cases e).blk Cq).2 (Nat.not_lt.2 r5)
theorem mQ (h:JG w p ls Br vs) {r:Nat} {L:List Int} (I4:Br=some (r,L)) (hr:r<ls.length) {t:TypeId} {ti:TypeInfo} (Jt:P.info? t=some ti) (A5:ti.size=1):
 ∃ w',(Instr.storeAt t (.pointer (some ⟨p.blk,p.off+r,none⟩)) (vs.getD 0 undef)).run P w= .ok () w'/\ AQ (fun b=>b=p.blk) w w'/\ JG w' { p with val:=.tuple (vs.setIfInBounds (r+1) (vs.getD 0 undef)) } (ls.set r L) none (vs.setIfInBounds (r+1) (vs.getD 0 undef))/\ DD w' p.blk:=by
 obtain ⟨hs,hd⟩:=h.inHand r L I4;obtain ⟨cs,tt,k1,k2,k3,k4⟩:=h.row
 generalize hU:vs.getD 0 undef=u at*
 have hc:u.cells= #[u]:=by rcases hs with ⟨_,rfl⟩ | ⟨q,cap,rfl,_⟩ <;> rfl
 have Jw:r+1<vs.size:=by rw [h.size];omega
 have Bo:w.cell? ⟨p.blk,p.off+r,none⟩=some vs[r+1]:=by
  have:=k4 r hr;rw [zB Jw] at this;unfold World.cell?;simp [k1,this]
 have F7: ∀ jj,w.frozen? ⟨p.blk,jj,none⟩=false:=fun jj=>by unfold World.frozen?;simp [k1]
 have hv: ∀ j,j≠r -> (vs.setIfInBounds (r+1) u).getD (j+1) undef=vs.getD (j+1) undef:=fun j hj=>by
  rw [yn,yn,zAX (by omega)]
 have F4:(vs.setIfInBounds (r+1) u).getD (r+1) undef=u:=by
  simp [yn,zK,Jw]
 obtain ⟨Dz,e1,e2,e3⟩:=OF p.blk tt (0,0) [u] (p.off+r) w cs k1 (by simp;omega);have X7:AQ (fun b=>b=p.blk) w (w.setCells p.blk (p.off+r) [u]):=NF _ _ _ _
 generalize hW:w.setCells p.blk (p.off+r) [u]=W at X7 e1
 have stay: ∀ b,b≠p.blk -> b<w.heap.size -> W.heap[b]? =w.heap[b]? :=fun b hb hl=>X7.block b hl hb
 refine ⟨W,?_,X7,?_,.cells e1⟩
 ·rw [←hW]
  have:=Vo (w:=w) (b:=p.blk) (o:=p.off+r) (v:=u) Jt (by rw [hc,A5];rfl) (fun jj K8=>by
   have:jj=0:=by rw [hc] at K8;simpa using K8
   subst this;rw [zAb,Bo];rfl) F7 (fun x hx=>by
   have:x=u:=by rw [hc] at hx;simpa using hx
   subst this;rcases hs with ⟨_,rfl⟩ | ⟨q,cap,rfl,_⟩ <;> rfl)
  rw [hc] at this;exact this
 ·have lg: ∀ j,j≠r -> (ls.set r L).getD j default=ls.getD j default:=fun j hj=>by
   rw [u8,u8,zU (by omega)]
  refine ⟨rfl,by simpa using h.size,⟨Dz,tt,e1,by simpa [e2] using k2,by rw [e2];exact k3,fun j hj=>?_⟩,h.blk,fun j hj _=>?_,fun i j b hi hj _ _ h1 h2=>?_,fun k L e=>by cases e⟩
  ·rw [yu] at hj
   show Dz[p.off+j]? =_
   rw [e3]
   by_cases e:j=r
   ·subst e;rw [yP (by simp),Array.getElem?_setIfInBounds_self_of_lt Jw];simp
   ·rw [yb (by simp;omega),zAX (by omega)];exact k4 j hj
  ·rw [yu] at hj
   by_cases e:j=r
   ·subst e;rw [F4,show (ls.set j L).getD j default=L by simp [u8,hj]];exact hs.out (fun b hf _ hl=>stay b hf.2 hl) fun _ h _=>h
   ·rw [hv j e,lg j e];exact (h.has j hj fun L' e'=>by rw [I4] at e';cases e';exact e rfl).out (fun b hf _ hl=>stay b hf.2 hl) fun _ h _=>h
  ·rw [yu] at hi hj
   by_cases ei:i=r
   ·subst ei;rw [F4] at h1
    by_cases ej:j=i
    ·exact ej.symm
    ·rw [hv j ej] at h2;exact (hd j b hj h1 h2).symm
   ·rw [hv i ei] at h1
    by_cases ej:j=r
    ·subst ej;rw [F4] at h2;exact hd i b hi h2 h1
    ·rw [hv j ej] at h2;exact h.apart i j b hi hj (fun L' e'=>by rw [I4] at e';cases e';exact ei rfl) (fun L' e'=>by rw [I4] at e';cases e';exact ej rfl) h1 h2
theorem az (R:Ad P Γ N S ρ a w) {o:Oper} {S':St} {fz JB:List (Nat×Fz)} {vc:List Prop} (h:Vj P S fz o=some (S',vc,JB)) (hv:Bl vc):
 BT P (execOp a.eval o) w (fun v w'=>(∃ ρ',Ad P Γ N S' ρ' (a.put o.dst v) w'/\ Cr S.h ρ w S'.h ρ' w')/\ ((∀ t x y,o.op≠.store t x y)∨∃ k i p t x y,o.op= .store t x y/\ Ac S.fr x= .mp k 1 i 0/\ ρ[k]? =some p/\ AQ p.foot w w')):=by
 unfold Vj at h;split at h
 ·rename_i t x y ho;split at h
  case h_2=>cases h
  rename_i d rest;split at h
  case isFalse=>cases h
  split at h
  case h_2=>cases h
  rename_i r hT;obtain ⟨e,i⟩:=r;split at h
  case h_2=>cases h
  rename_i k1 m k2 m' hx hy;cases h;obtain ⟨⟨rfl,F6,IA⟩,_⟩:=hv;obtain ⟨hu,hi,hz,hs,DK⟩:=mS hT;have rx:=Bm R x;have ry:=Bm R y;rw [hx] at rx;rw [hy] at ry;have DC:(madeCells (Value.slice none 0 0).cells (m'.toNat*i.size)).size=m'.toNat:=by rw [size_madeCells,hs,zR]
  have Cp: ∀ j,j<m'.toNat -> (madeCells (Value.slice none 0 0).cells (m'.toNat*i.size))[j]? =some (Value.slice none 0 0):=fun j hj=>by
   simp [madeCells,hs,hj,Value.cells,Nat.mod_one]
  refine BT.value (s:=Instr.makeSlice t (a.eval x) (a.eval y)) (by unfold execOp;rw [ho]) (v:=.slice (some ⟨w.heap.size,0,none⟩) m'.toNat m'.toNat) (w':=w.alloc (.cells (madeCells (Value.slice none 0 0).cells (m'.toNat*i.size)) e)) ?_ ?_
  ·rw [show a.eval x=_ from rx,show a.eval y=_ from ry];refine run_make w t e i _ hu hi hz k1 k2 m' m' F6 (zO _) ?_ (by omega);have:(i.bytes:Int)*m'<=128*1000000000000:=Int.mul_le_mul (by omega) IA F6 (by omega);omega
  ·generalize hC:madeCells (Value.slice none 0 0).cells (m'.toNat*i.size)=cs at DC Cp ⊢
   have hg: ∀ j,j<m'.toNat -> (#[undef]++Array.replicate m'.toNat (Value.slice none 0 0)).getD (j+1) undef= .slice none 0 0:=fun j hj=>by
    simp [yn,Array.getElem?_append,hj]
   refine ⟨Ms R o.dst (Qh (ob:=.cells cs e) (o:=.mo (.rws (List.replicate m'.toNat []) none)) (d:=.msl S.h.length 1 0 m'.toNat) (pl:=⟨w.heap.size,0,cs.size,.tuple (#[undef]++Array.replicate m'.toNat (Value.slice none 0 0)),fun b=>b=w.heap.size⟩) R.hr rfl rfl (fun M ρ'=>?_) (fun M ρ' hp=>⟨_,m'.toNat,hp,by simp,ym _,by unfold LB;omega,by simp [DC]⟩) true) fun _ _ h=>h,.inl fun t x y e=>by rw [ho] at e;cases e⟩;refine ⟨#[undef]++Array.replicate m'.toNat (Value.slice none 0 0),rfl,by simp;omega,⟨cs,e,zAM w _,by simp [DC],ym _,fun j hj=>?_⟩,rfl,fun j hj _=>.inl ⟨?_,?_⟩,fun i j b hi hj _ _ h1 h2=>?_,fun k L e=>by cases e⟩
   ·rw [yi] at hj
    show cs[0+j]? =_
    rw [yt,Cp j hj];simp [Array.getElem?_append,hj]
   ·rw [yi] at hj;simp [u8,hj]
   ·rw [yi] at hj;exact hg j hj
   ·rw [yi] at hi;rw [hg i hi] at h1;cases h1
 ·rename_i c ho;split at h
  case h_2=>cases h
  rename_i hc;split at h
  case h_2=>cases h
  rename_i x y ha;split at h
  case h_2=>cases h
  rename_i t t' ht;split at h
  case isFalse=>cases h
  rename_i e;subst e;split at h
  case h_2=>cases h
  rename_i e i z hk;obtain ⟨hu,hi,hz,h0,CT,Dv,_⟩:=Qv hk;have Cc:i.size=1:=Dv.symm;split at h
  case isTrue=>cases h
  rename_i DK;have rx:=Bm R x;have ry:=Bm R y;split at h
  case h_2=>cases h
  rename_i j r ys vy hX hY;split at h
  case h_2=>cases h
  rename_i ls hO;cases h;obtain ⟨v1,v2,v3,v4,_⟩:=hv;rw [hX] at rx;obtain ⟨p,vs,hp,hA,Ch⟩:=ay R hO rx;have ex:a.eval x=vs.getD (r+1) undef:=by simp [yn,Ch]
  obtain ⟨w',u',p',g1,g2,g3,g4,g5,g6,g7⟩:=mR (ty:=o.type) hA v3 (fun b hb=>(R.hr.cel j _ p b hO hp hb).2.2) hu hi hz Cc CT (by omega) (by rw [Cc];exact QG R hu ry hY v1) v2 v4;refine BT.value (Qp ho hc ha ht) (by rw [ex];exact g1) ?_
  exact ⟨ax R hO hp g2 g3 g4 g5 g6 g7 o.dst fun M ρ' hq=>⟨p',_,hq,g4.val,by
   have:0<vs.size:=by rw [hA.size];omega
   simp [zK,this]⟩,.inl fun t x y e=>by rw [ho] at e;cases e⟩
 ·rename_i t x y ho;split at h
  case h_2=>cases h
  rename_i Xv;split at h
  case h_2=>cases h
  rename_i j r j' hX hY;split at h
  case h_2=>cases h
  rename_i ls r' L hO;split at h
  case isFalse=>cases h
  rename_i hc;cases h;obtain ⟨rfl,A5⟩:=hc;obtain ⟨rfl,v2,_⟩:=hv;have rx:=Bm R x;have ry:=Bm R y;rw [hX] at rx;rw [hY] at ry;obtain ⟨p,vs,hp,hA,Ch⟩:=ay R hO ry;obtain ⟨p2,Ma,ex⟩:=rx;have:p2=p:=yY (Ma.symm.trans hp);subst this;cases Jt:P.info? t with
  | none=>rw [Jt] at A5;cases A5
  | some ti=>
  rw [Jt] at A5;have YT:a.eval x= .pointer (some ⟨p2.blk,p2.off+r',none⟩):=by rw [ex];simp
  have ey:a.eval y=vs.getD 0 undef:=by simp [yn,Ch]
  obtain ⟨W,g1,g2,g3,g4⟩:=mQ hA rfl v2 Jt (by simpa using A5);refine BT.skip (s:=Instr.storeAt t (a.eval x) (a.eval y)) (by unfold execOp;rw [ho]) (w':=W) (by rw [YT,ey];exact g1) ?_
  have:=ax (a:=a) (p':={ p2 with val:=.tuple (vs.setIfInBounds (r'+1) (vs.getD 0 undef)) }) R hO hp (g2.mono fun b _ hb=>by rw [show b=p2.blk from hb];exact hA.blk) (fun b hb=>⟨.inl hb,by
   by_cases e:b=p2.blk
   ·rw [e];exact g4
   ·obtain ⟨c,t1,t2,hc⟩:=(R.hr.cel _ _ p2 b hO hp hb).2.2;exact ⟨c,t1,t2,(g2.block b (yR.1 hc).1 e).trans hc⟩⟩) g3 rfl rfl rfl none (d:=.any) (v:=undef) fun _ _ _=>trivial
  rw [Xv];exact ⟨this,.inr ⟨j',r',p2,t,x,y,ho,hX,hp,g2.mono fun b _ hb=>by rw [show b=p2.blk from hb];exact hA.blk⟩⟩
 ·cases h
end
end Go.Proofs.YtgkhhfnhacibcaaGreatDoor
namespace Go.Proofs.YtgkhhfnhacibcaaGreatDoor
abbrev zAG:=@Bool.false_or
abbrev zAN:=@Bool.false_ne_true
end Go.Proofs.YtgkhhfnhacibcaaGreatDoor
namespace Go.Proofs.YtgkhhfnhacibcaaGreatDoor
open Go.RowKit
def ES (P:Program) (Γ:A9) (f:Nat) (ds:List DV) (h:DH) (d:DV) (h':DH) (ext:Bool):Prop:=
 (∃ fn,P.funcs[f]? =some fn/\ fn.name≠ "runtime.NumGoroutine" /\ fn.body.isSome=true)/\
 ∀ (N:Nat -> Prop) (ρ:List AN) (w:World) (args:Array Value),Bb P Γ N h ρ w -> B8 (MS N h ρ) w ρ ds args ->
  Calls P f args w fun e w'=>∃ v,e= .returned v/\ C6 P Γ N h ρ w ext d h' v w'
def QD (h h':DH):Bool:=(List.range h.length).all fun k=>!(h.getD k none).isSome||(h'.getD k none).isSome
def ND (P:Program) (Γ:A9) (f:Nat) (ds:List DV) (h:DH) (d:DV) (h':DH) (k:Nat):Prop:=
 (∃ fn,P.funcs[f]? =some fn/\ fn.name≠ "runtime.NumGoroutine" /\ fn.body.isSome=true)/\
 ∀ (N:Nat -> Prop) (ρ:List AN) (w:World) (args:Array Value),Bb P Γ N h ρ w -> B8 (MS N h ρ) w ρ ds args ->
  Calls P f args w fun e w'=>∃ v,e= .returned v/\ C6 P Γ N h ρ w false d h' v w'/\ AQ (fun b=>∃ i o p,k<=i/\ h[i]? =some (some o)/\ ρ[i]? =some p/\ p.foot b) w w'
structure Bw where
 calls:List (DV×DH×Bool)
 co:List (Nat×DV)
 fz:List (Nat×Fz):=[]
 tg:List (List (Nat×Nat)×St):=[]
def KR (ops:Array Oper) (S:St) (o:Oper):Option Bool:=match o.guard with
 | none=>some true
 | some (j,JR)=>match (ops[j]?).bind (·.dst) with
  | some t=>match S.fr.getD t .any with
   | .bool b=>some (b==JR)
   | .tup _ _=>some false
   | _=>none
  | none=>none
def RA (co:List (Nat×DV)) (dst:Option Nat) (d:DV):DV×List Prop×List (Nat×DV):=match co with
 | []=>(d,[],[])
 | (t,d')::rest=>match dst with
  | some t'=>if t'=t then (d',[AS d d'],rest) else (d,[],co)
  | none=>(d,[],co)
def KT (S:St):Op -> Bool
 | .move _=>true
 | .assign _=>true
 | .pick .. =>true
 | .binOp .shl .. =>false
 | .binOp .shr .. =>false
 | .binOp .quo .. =>false
 | .binOp .rem .. =>false
 | .binOp _ _ _ y _=>match Ac S.fr y with
  | .nils=>false
  | _=>true
 | .unOp .. =>true
 | .convert .. =>true
 | .nilCheck _=>true
 | .fieldAddr .. =>true
 | .extract .. =>true
 | .makeFunc .. =>true
 | .build .. =>true
 | .field .. =>true
 | .call _=>true
 | .load _ x=>match Ac S.fr x with
  | .mp .. =>false
  | _=>true
 | _=>false
def qt:Op -> Bool
 | .box .. =>true
 | .alloc _=>true
 | .buildSlice .. =>true
 | .makeSlice .. =>true
 | .store .. =>true
 | .makeMap .. =>true
 | .mapUpdate .. =>true
 | .insert .. =>true
 | .lookup .. =>true
 | .range .. =>true
 | .entry _=>true
 | .call c=>match c.callee with
  | .builtin .append=>true
  | .value _=>true
  | _=>false
 | _=>false
def Pc (P:Program) (ops:Array Oper) (S:St) (co:List (Nat×DV)) (o:Oper):Option (St×List Prop×List (Nat×DV)):=match KR ops S o with
 | none=>none
 | some false=>some (⟨Do S.fr o.dst Ox,S.h⟩,[],co)
 | some true=>match Ph P S o.op with
  | none=>none
  | some (d,vc)=>match RA co o.dst d with
   | (d',vs,C4)=>some (⟨Do S.fr o.dst d',S.h⟩,(if KT S o.op then vs else vc::vs),C4)
def Pe (P:Program) (ops:Array Oper):List Oper -> St -> List (Nat×DV) -> Option (St×List Prop×List (Nat×DV))
 | [],S,co=>some (S,[],co)
 | o::rest,S,co=>match Pc P ops S co o with
  | none=>none
  | some (S',vs,C4)=>match Pe P ops rest S' C4 with
   | none=>none
   | some (Ce,BZ,gT)=>some (Ce,vs++BZ,gT)
def Ok (P:Program) (Γ:A9) (S:St) (calls:List (DV×DH×Bool)):Op -> Option (DV×DH×List Prop×Bool×List (DV×DH×Bool))
 | .box _ x=>match IK (Ac S.fr x) with
  | some l=>some (.ref S.h.length 0,S.h++[some (.cells l)],[],true,calls)
  | none=>none
 | .alloc t=>match P.info? t with
  | some i=>match i.zero with
   | some z=>if U3 z then some (.mp S.h.length 1 0 0,S.h++[some (.bools (List.replicate z.cells.size false))],[],true,calls)
    else some (.ref S.h.length 0,S.h++[some (.cells (z.cells.toList.map FI))],[],true,calls)
   | none=>none
  | none=>none
 | .buildSlice t len parts=>match J9 P t with
  | some (k,_,_,_)=>if UY parts.toList len&&decide (len<=65536/\ k.cells<=64) then match Oe k (parts.toList.map fun x=>Ac S.fr x.2) with
   | some ob=>some (.msl S.h.length k.cells 0 len,S.h++[some ob],[],true,calls)
   | none=>none
   else none
  | none=>none
 | .makeSlice t x y=>match TC P t with
  | some (n,_,_)=>match Ac S.fr x,Ac S.fr y with
   | .int _ m,.int _ m'=>some (.msl S.h.length 1 0 m.toNat,S.h++[some (.mo (.sets n (List.replicate m.toNat none) none))],[m'=m/\ 0<=m/\ m<=1000000000000],true,calls)
   | _,_=>none
  | none=>match J9 P t with
   | some (k,_,i,z)=>if decide (i.bytes<=128) then match Ac S.fr x,Ac S.fr y with
    | .int _ n,.int _ n'=>some (.msl S.h.length k.cells 0 n.toNat,S.h++[some (cx k n.toNat z)],[n'=n/\ 0<=n/\ n<=1000000000000],true,calls)
    | _,_=>none
    else none
   | none=>none
 | .store t x y=>match Li P S t (Ac S.fr x) (Ac S.fr y) with
  | some (h',vc)=>some (.any,h',[vc],false,calls)
  | none=>none
 | .call c=>match c.callee with
  | .builtin .append=>match c.args.toList with
   | [x,y]=>match c.argTypes.toList with
    | [t,t']=>if t=t' then match Y9 P S t (Ac S.fr x) (Ac S.fr y) with
     | some (d,h',vc)=>some (d,h',[vc],false,calls)
     | none=>none
     else none
    | _=>none
   | _=>none
  | .value f=>match Ac S.fr f,calls with
   | .fn g m cap,(d,h',ext)::rest=>some (d,h',[ES P Γ g (c.args.toList.map (Ac S.fr)++(List.range m).map cap) S.h d h' ext],ext,rest)
   | _,_=>none
  | _=>none
 | op=>match Wi P S op with
  | some (d,h',vs,ext)=>some (d,h',vs,ext,calls)
  | none=>none
def M8 (P:Program) (Γ:A9) (ops:Array Oper) (S:St) (As:Bw) (o:Oper):Option (St×List Prop×Bool×Bw):=match KR ops S o with
 | none=>none
 | some false=>some (⟨Do S.fr o.dst Ox,S.h⟩,[],true,As)
 | some true=>match Vj P S As.fz o with
  | some (S',vs,JB)=>some (S',vs,false,⟨As.calls,As.co,JB,As.tg⟩)
  | none=>match VQ P S o with
  | some (S',vs)=>some (S',vs,false,As)
  | none=>match Ok P Γ S As.calls o.op with
   | none=>none
   | some (d,h',vs,ext,calls)=>match RA As.co o.dst d with
    | (d',BZ,C4)=>match Qj As.fz o.dst ⟨Do S.fr o.dst d',h'⟩ with
     | none=>none
     | some (S',NE,JB)=>some (S',vs++(BZ++NE),ext,⟨calls,C4,JB,As.tg⟩)
def Ej (P:Program) (Γ:A9) (ops:Array Oper):List Oper -> St -> Bw -> Option (St×List Prop×Bw)
 | [],S,As=>some (S,[],As)
 | o::rest,S,As=>match qt o.op with
  | true=>match M8 P Γ ops S As o with
   | none=>none
   | some (S',vs,_,CL)=>match Ej P Γ ops rest S' CL with
    | none=>none
    | some (Ce,BZ,Pr)=>some (Ce,vs++BZ,Pr)
  | false=>match Pc P ops S As.co o with
   | none=>none
   | some (S',vs,C4)=>match Ej P Γ ops rest S' ⟨As.calls,C4,As.fz,As.tg⟩ with
    | none=>none
    | some (Ce,BZ,Pr)=>some (Ce,vs++BZ,Pr)
def Yq (P:Program) (Γ:A9) (hb:DH) (ops:Array Oper) (S:St) (As:Bw) (o:Oper):Option (St×List Prop×Bw):=match o.op with
 | .call c=>match c.callee with
  | .value f=>match Ac S.fr f,As.calls with
   | .fn g m cap,(d,h',false)::rest=>match KR ops S o,QD hb S.h with
    | some true,true=>match RA As.co o.dst d with
     | (d',BZ,C4)=>match Qj As.fz o.dst ⟨Do S.fr o.dst d',h'⟩ with
      | some (S',NE,JB)=>some (S',ND P Γ g (c.args.toList.map (Ac S.fr)++(List.range m).map cap) S.h d h' hb.length::(BZ++NE),⟨rest,C4,JB,As.tg⟩)
      | none=>none
    | _,_=>none
   | _,_=>none
  | _=>none
 | _=>none
def bh (Cg:List Nat) (hb h:DH):DH:=match Cg with
 | []=>hb
 | _=>h
def hseq (P:Program) (Γ:A9) (ops:Array Oper):DH -> List (List Nat×Nat) -> List Nat -> List Nat -> St -> Bw -> Option (St×List Prop×Bw)
 | _,[],Bc,tail,S,As=>match Pe P ops (FH ops Bc) S As.co with
  | none=>none
  | some (S',vs,C4)=>match Ej P Γ ops (FH ops tail) S' ⟨As.calls,C4,As.fz,As.tg⟩ with
   | none=>none
   | some (Ce,BZ,Pr)=>some (Ce,vs++BZ,Pr)
 | hb,(Cg,i)::Ef,Bc,tail,S,As=>match Pe P ops (FH ops Cg) S As.co with
  | none=>none
  | some (S',vs,C4)=>match ops[i]? with
   | none=>none
   | some o=>match Yq P Γ (bh Cg hb S.h) ops S' ⟨As.calls,C4,As.fz,As.tg⟩ o with
    | some (Ce,BZ,CL)=>match hseq P Γ ops (bh Cg hb S.h) Ef Bc tail Ce CL with
     | none=>none
     | some (S3,Ld,Jk)=>some (S3,vs++(BZ++Ld),Jk)
    | none=>match M8 P Γ ops S' ⟨As.calls,C4,As.fz,As.tg⟩ o with
     | none=>none
     | some (Ce,BZ,ext,CL)=>match ext with
      | false=>none
      | true=>match hseq P Γ ops (bh Cg hb S.h) Ef Bc tail Ce CL with
       | none=>none
       | some (S3,Ld,Jk)=>some (S3,vs++(BZ++Ld),Jk)
section
variable {P:Program} {Γ:A9} {N:Nat -> Prop} {S:St} {ρ:List AN} {a:Act} {w:World} {F:Fence}
structure Dl (F:Fence) (P:Program):Prop where
 fn: ∀ f,F.fn f
 dep:F.depth=none
 calls: ∀ {f:FuncId} {args:Array Value} {w:World} {R:Ending -> World -> Prop},Calls P f args w R -> CallsIn F 0 P f args w R
theorem Dl.wide:Dl Fence.wide P:=⟨fun _=>trivial,rfl,fun h=>callsIn_wide.2 h⟩
theorem Dl.round (l:Nat):Dl (Fence.wide.inRound l) P:=⟨fun _=>trivial,rfl,fun h=>CallsIn.inRound _ (callsIn_wide.2 h)⟩
theorem JQ (R:Ad P Γ N S ρ a w) {ops:Array Oper} {o:Oper} {r:Bool} (h:KR ops S o=some r):Region.wanted o (yielded ops a.tmps)=r:=by
 unfold KR at h;unfold Region.wanted;split at h
 ·rename_i hg;rw [hg];cases h;rfl
 ·rename_i j JR hg;rw [hg];split at h
  ·rename_i t ht;split at h
   ·rename_i b hb;cases h;have hr:=R.fr.at t;rw [hb] at hr;have hv:a.tmps.getD t undef= .bool b:=hr
    have:a.tmps[t]? =some (.bool b):=by
     rw [yn] at hv;cases hx:a.tmps[t]? with
     | none=>rw [hx] at hv;cases hv
     | some u=>rw [hx] at hv;exact congrArg some hv
    simp [yielded,ht,this]
   ·rename_i m f hb;cases h;have hr:=R.fr.at t;rw [hb] at hr;obtain ⟨cs,hv,_⟩:=hr
    have:yielded ops a.tmps j=none:=by
     unfold yielded;rw [ht]
     show (match a.tmps[t]? with | some (.bool b)=>some b | _=>none)=none
     rw [yn] at hv;cases hx:a.tmps[t]? with
     | none=>rfl
     | some u=>rw [hx] at hv;have hv:u= .tuple cs:=hv;rw [hv]
    simp [this]
   ·cases h
  ·cases h
theorem Uk {co:List (Nat×DV)} {dst:Option Nat} {d d':DV} {vs:List Prop} {C4:List (Nat×DV)} (h:RA co dst d=(d',vs,C4)) (hv:Bl vs) {M:Nat -> Prop} {v:Value} (hr:AO M w d ρ v):AO M w d' ρ v:=by
 unfold RA at h;split at h
 ·cases h;exact hr
 ·split at h
  ·split at h
   ·cases h;exact hv.1 M w ρ v hr
   ·cases h;exact hr
  ·cases h;exact hr
theorem bv {op:Op} {d:DV} {vc:Prop} (h:Nb P S op=some (d,vc)) (ht:KT S op=true):vc:=by
 unfold Nb at h;split at h
 ·cases h;trivial
 ·cases h;trivial
 ·repeat' (split at h)
  all_goals first | (cases h;trivial) | (cases h;done)
 ·rename_i t x;simp only [KT] at ht;unfold MI at h
  repeat' (split at h)
  all_goals first | (cases h;trivial) | (cases h;done) | (simp_all;done)
 ·rename_i op t x y t';unfold Ur at h;split at h
  ·split at h
   all_goals first | (cases h;trivial) | (cases h;done)
  ·split at h
   all_goals first | (cases h;trivial) | (cases h;done)
  ·rename_i e;simp [KT,e] at ht
  ·rename_i e;simp [KT,e] at ht
  ·rename_i e;simp [KT,e] at ht
  ·cases ht
  ·cases ht
  ·cases ht
  ·cases ht
  ·split at h
   ·unfold Uq at h;split at h
    all_goals first | (cases h;trivial) | (cases h;done)
   ·cases h
  ·cases h
 ·repeat' (split at h)
  all_goals first | (cases h;trivial) | (cases h;done)
 ·repeat' (split at h)
  all_goals first | (cases h;trivial) | (cases h;done)
 ·repeat' (split at h)
  all_goals first | (cases h;trivial) | (cases h;done)
 ·repeat' (split at h)
  all_goals first | (cases h;trivial) | (cases h;done)
 ·cases ht
 ·repeat' (split at h)
  all_goals first | (cases h;trivial) | (cases h;done)
 ·split at h
  ·cases h;trivial
  ·cases h
 ·split at h
  ·unfold Up at h;split at h
   ·split at h
    ·split at h
     ·unfold TM at h;split at h
      all_goals first | (cases h;trivial) | (cases h;done)
     ·cases h
    ·cases h
   ·split at h
    ·unfold We at h;split at h
     all_goals first | (cases h;trivial) | (cases h;done)
    ·cases h
   ·split at h
    ·unfold Wc at h;split at h
     all_goals first | (cases h;trivial) | (cases h;done)
    ·cases h
   ·cases h
  ·cases h
 ·cases h
theorem v6 {op:BinOp} {t:TypeId} {x y d:DV} {vc:Prop} (h:Qs P op t x y=some (d,vc)):vc:=by
 unfold Qs at h;split at h
 ·split at h
  all_goals first | (cases h;trivial) | (cases h;done)
 ·split at h
  all_goals first | (cases h;trivial) | (cases h;done)
 ·cases h
theorem jR {op:Op} {d:DV} {vc:Prop} (h:Ph P S op=some (d,vc)) (ht:KT S op=true):vc:=by
 unfold Ph at h;split at h
 ·unfold TK at h
  repeat' (split at h)
  all_goals first | (cases h;trivial) | (cases h;done)
 ·cases ht
 ·unfold UI at h
  repeat' (split at h)
  all_goals first | (cases h;trivial) | (cases h;done)
 ·cases ht
 ·split at h
  ·rename_i r hr;cases h;exact v6 hr
  ·exact bv h ht
 ·exact bv h ht
theorem Se (R:Ad P Γ N S ρ a w) {ops:Array Oper} {co:List (Nat×DV)} {o:Oper} {S':St} {vs:List Prop} {C4:List (Nat×DV)} (h:Pc P ops S co o=some (S',vs,C4)) (hv:Bl vs):
 S'.h=S.h/\ ((Region.wanted o (yielded ops a.tmps)=true/\ ∃ v,(∀ W,Keep N w W -> (execOp a.eval o).run P W= .ok (.value v) W)/\ Ad P Γ N S' ρ (a.put o.dst v) w)∨(Region.wanted o (yielded ops a.tmps)=false/\ Ad P Γ N S' ρ (a.put o.dst undef) w)):=by
 unfold Pc at h;split at h
 ·cases h
 ·rename_i hw;cases h;exact ⟨rfl,.inr ⟨JQ R hw,Ho R _ Rk⟩⟩
 ·rename_i hw;split at h
  ·cases h
  ·rename_i d vc hp;split at h;rename_i d' BZ gT Mk;cases h
   have d4:vc/\ Bl BZ:=by
    by_cases ht:KT S o.op=true
    ·rw [yP ht] at hv;exact ⟨jR hp ht,hv⟩
    ·rw [yb ht] at hv;exact hv
   obtain ⟨v,g1,g2⟩:=oG R o hp d4.1;exact ⟨rfl,.inl ⟨JQ R hw,v,g1,Ho R _ (Uk Mk d4.2 g2)⟩⟩
theorem Pd {ops:Array Oper} {Q:Act -> Prop}: ∀ (l:List Oper) {S:St} {a:Act} {co:List (Nat×DV)} {S':St} {vs:List Prop} {C4:List (Nat×DV)},Ad P Γ N S ρ a w -> Pe P ops l S co=some (S',vs,C4) -> Bl vs ->
 (∀ a',S'.h=S.h -> Ad P Γ N S' ρ a' w -> a'.defers=a.defers -> Q a') -> wpQuiet P ops (fun w'=>∃ x:RU w,w'=x.W) Q l a
 | [],S,a,co,S',vs,C4,R,h,_,hQ=>by
  cases h;exact hQ a rfl R rfl
 | o::rest,S,a,co,S',vs,C4,R,h,hv,hQ=>by
  simp only [Pe] at h;split at h
  ·cases h
  ·rename_i S1 Cf RB h1;split at h
   ·cases h
   ·rename_i S2 Eu co2 h2;cases h;obtain ⟨B3,CD⟩:=Cl.1 hv;obtain ⟨e1,hs⟩:=Se R h1 B3;unfold wpQuiet;have C1: ∀ v,(a.put o.dst v).defers=a.defers:=fun v=>by cases ho:o.dst <;> simp [Act.put]
    rcases hs with ⟨hw,v,g1,g2⟩ | ⟨hw,g2⟩
    ·rw [yP hw];refine ⟨v,?_,Pd rest g2 h2 CD fun a' q1 q2 q3=>hQ a' (q1.trans e1) q2 (q3.trans (C1 v))⟩;rintro W ⟨x,rfl⟩;unfold Oper.quietAt;rw [g1 x.W (Keep.ofExt x.le)];exact ⟨rfl,rfl⟩
    ·rw [yb (by rw [hw];exact zAN)];exact Pd rest g2 h2 CD fun a' q1 q2 q3=>hQ a' (q1.trans e1) q2 (q3.trans (C1 undef))
theorem B8.append {M:Nat -> Prop} {l l':List DV} {t t':Array Value} (h:B8 M w ρ l t) (h':B8 M w ρ l' t'):B8 M w ρ (l++l') (t++t'):=by
 refine ⟨by simp [h.1,h'.1],fun i hi=>?_⟩;rcases zt i l.length with hl | hl
 ·have:=h.2 i hl;have ht:i<t.size:=by rw [←h.1];exact hl
  simp only [u8,yn] at this ⊢;rw [yy hl,zAB ht];exact this
 ·have BN:i-l.length<l'.length:=by simp at hi;omega
  have:=h'.2 _ BN;have ht:t.size<=i:=by rw [←h.1];exact hl
  simp only [u8,yn] at this ⊢;rw [zC hl,Array.getElem?_append_right ht,←h.1];exact this
theorem mr {g:Nat} {args:Array Value} {fn:Func} (J3:P.funcs[g]? =some fn) (J0:fn.name≠ "runtime.NumGoroutine") (X1:fn.body.isSome=true):(callFunc g args).run P w= .ok (.enter g args) w:=by
 have t7:fn.body.isNone=false:=by cases hb:fn.body <;> simp [hb] at X1 ⊢
 have t6:(fn.name== "runtime.NumGoroutine")=false:=by simpa using J0
 unfold callFunc;rw [yj,show Sem.run P program w= .ok P w from rfl];simp only [Result.andThen,J3,t6,t7,zL,zAS];rfl
theorem gj (R:Ad P Γ N S ρ a w) {c:Call} {f:Operand} {g m:Nat} {cap:Nat -> DV} {G:Value -> World -> Prop} (o:Oper) (ho:o.op= .call c) (hc:c.callee= .value f) (hf:Ac S.fr f= .fn g m cap)
 (J3: ∃ fn,P.funcs[g]? =some fn/\ fn.name≠ "runtime.NumGoroutine" /\ fn.body.isSome=true) (hE: ∀ args,B8 (MS N S.h ρ) w ρ (c.args.toList.map (Ac S.fr)++(List.range m).map cap) args -> Calls P g args w fun e w'=>∃ v,e= .returned v/\ G v w'):BT P (execOp a.eval o) w G:=by
 obtain ⟨fn,J3,J0,X1⟩:=J3;have hr:=Bm R f;rw [hf] at hr;obtain ⟨lb,hv,hs,K9⟩:=hr;refine .inr (.inr ⟨g,c.args.map a.eval++lb,w,?_,hE _ (B8.append ⟨by simp,fun i hi=>?_⟩ ⟨by simp [hs],fun i hi=>?_⟩)⟩)
 ·unfold execOp;rw [ho]
  show ((resolve a.eval c o.type)>>=fun d=>invoke d.target d.args).run P w=_
  unfold resolve;rw [hc];simp only [Deferred.ofValue,hv];have he:((pure { target:=.fn (.func g) lb,args:=#[]++Array.map a.eval c.args }:Sem Deferred)>>=fun d=>invoke d.target d.args).run P w=(callFunc g (#[]++Array.map a.eval c.args++lb)).run P w:=rfl;rw [he,mr J3 J0 X1];simp
 ·have BN:i<c.args.size:=by simpa using hi
  have:=Bm R c.args[i];simp [BN,this]
 ·have BN:i<m:=by simpa using hi
  obtain ⟨u,g1,g2⟩:=K9 i BN;simp [BN,g1,g2]
theorem xI (R:Ad P Γ N S ρ a w) {c:Call} {f:Operand} {g m:Nat} {cap:Nat -> DV} {d:DV} {h':DH} {ext:Bool} (o:Oper) (ho:o.op= .call c) (hc:c.callee= .value f) (hf:Ac S.fr f= .fn g m cap)
 (hE:ES P Γ g (c.args.toList.map (Ac S.fr)++(List.range m).map cap) S.h d h' ext):BT P (execOp a.eval o) w (C6 P Γ N S.h ρ w ext d h'):=
 gj R o ho hc hf hE.1 fun args ha=>hE.2 N ρ w args R.hr ha
theorem ZG (R:Ad P Γ N S ρ a w) {calls:List (DV×DH×Bool)} {o:Oper} {d:DV} {h':DH} {vs:List Prop} {ext:Bool} {RC:List (DV×DH×Bool)} (h:Ok P Γ S calls o.op=some (d,h',vs,ext,RC)) (hv:Bl vs):
 BT P (execOp a.eval o) w (C6 P Γ N S.h ρ w ext d h'):=by
 unfold Ok at h;split at h
 ·rename_i t x ho;split at h
  ·rename_i l hl;cases h;exact xN R hl o ho true
  ·cases h
 ·rename_i t ho;split at h
  ·rename_i i hi;split at h
   ·rename_i z hz;split at h
    ·rename_i XF;cases h;exact yB R hi hz XF o ho true
    ·cases h;exact yA R hi hz o ho true
   ·cases h
  ·cases h
 ·rename_i t len parts ho;split at h
  ·rename_i k e i z hk;split at h
   ·rename_i hc;simp only [yT,y8] at hc;split at h
    ·rename_i ob hb;cases h;exact xL R hk hc.1 hc.2 hb o ho true
    ·cases h
   ·cases h
  ·cases h
 ·rename_i t x y ho;split at h
  ·rename_i n e i hT;split at h
   ·rename_i k1 m k2 m' hx hy;cases h;obtain ⟨⟨rfl,v1,v2⟩,_⟩:=hv;exact pY R hT hx hy ⟨v1,v2⟩ o ho true
   ·cases h
  split at h
  ·rename_i k e i z hk;split at h
   ·rename_i DK;split at h
    ·rename_i k1 n k2 n' hx hy;cases h;obtain ⟨⟨rfl,v1,v2⟩,_⟩:=hv;exact pX R hk hx hy ⟨v1,v2⟩ (by simpa using DK) o ho true
    ·cases h
   ·cases h
  ·cases h
 ·rename_i t x y ho;split at h
  ·rename_i h1 vc hs;cases h;exact aN R hs hv.1 o ho
  ·cases h
 ·rename_i c ho;split at h
  ·rename_i hc;split at h
   ·rename_i x y ha;split at h
    ·rename_i t t' ht;split at h
     ·rename_i e;subst e;split at h
      ·rename_i d1 h1 vc X5;cases h;exact xp R X5 hv.1 o ho hc ha ht
      ·cases h
     ·cases h
    ·cases h
   ·cases h
  ·rename_i f hc;split at h
   ·rename_i g m cap d1 h1 ext1 rest hf;cases h;exact xI R o ho hc hf hv.1
   ·cases h
  ·cases h
 ·split at h
  ·rename_i hm;cases h;exact pW R o hm hv
  ·cases h
theorem KA (hF:Dl F P) {o:Oper} (hd: ∀ c,o.op≠.defer c) {G:Value -> World -> Prop} (h:BT P (execOp a.eval o) w G) {K:Act -> World -> Prop} {Q:Exit -> Act -> World -> Prop} (hK: ∀ v w',G v w' -> K (a.put o.dst v) w'):o.wpIn F 0 P a w K Q:=by
 refine ⟨fun f _=>hF.fn f,?_⟩;rw [zAf _ _ _ hd];rcases h with ⟨v,w',h1,h2⟩ | ⟨w',h1,h2⟩ | ⟨f,args,w',h1,h2⟩
 ·rw [h1];exact hK v w' h2
 ·rw [h1];exact hK undef w' h2
 ·rw [h1];refine ⟨fun hx=>(by rw [hF.dep] at hx;cases hx),(hF.calls h2).mono ?_⟩;rintro e CC ⟨v,rfl,hG⟩;exact hK v CC hG
theorem Yy (hF:Dl F P) (R:Ad P Γ N S ρ a w) {ops:Array Oper} {As:Bw} {o:Oper} (hd: ∀ c,o.op≠.defer c) {S':St} {vs:List Prop} {ext:Bool} {CL:Bw} (h:M8 P Γ ops S As o=some (S',vs,ext,CL)) (hv:Bl vs)
 {K:Act -> World -> Prop} {Q:Exit -> Act -> World -> Prop} (hK: ∀ ρ' a' w',Ad P Γ N S' ρ' a' w' -> Cr S.h ρ w S'.h ρ' w' -> a'.defers=a.defers -> (ext=true -> Au w w') -> K a' w'):
 if Region.wanted o (yielded ops a.tmps) then o.wpIn F 0 P a w K Q else (∀ f,o.about P w a.eval=some f -> F.fn f)/\ K (a.put o.dst undef) w:=by
 have C1: ∀ v,(a.put o.dst v).defers=a.defers:=fun v=>by cases ho:o.dst <;> simp [Act.put]
 unfold M8 at h;split at h
 ·cases h
 ·rename_i hw;cases h;rw [yb (by rw [JQ R hw];exact zAN)];exact ⟨fun f _=>hF.fn f,hK ρ _ _ (Ho R _ Rk) (Cr.refl _ _ _) (C1 _) fun _=>Au.refl w⟩
 ·rename_i hw;rw [yP (JQ R hw)];split at h
  ·rename_i S1 Cf vP hM;cases h;exact KA hF hd (az R hM hv) fun v w' ⟨⟨ρ',g1,g2⟩,_⟩=>hK ρ' _ _ g1 g2 (C1 v) fun e=>by cases e
  split at h
  ·rename_i S1 Cf hM;cases h;exact KA hF hd (aM R hM hv) fun v w' ⟨⟨ρ',g1,g2⟩,_⟩=>hK ρ' _ _ g1 g2 (C1 v) fun e=>by cases e
  split at h
  ·cases h
  ·rename_i d h1 Cf ext1 calls X6;split at h;rename_i d' BZ C4 Mk;split at h
   ·cases h
   ·rename_i S2 NE JB F7;cases h;obtain ⟨B3,QP⟩:=Cl.1 hv;obtain ⟨CD,H7⟩:=Cl.1 QP;refine KA hF hd (ZG R X6 B3) fun v w' G=>?_
    obtain ⟨ρ',g1,g2⟩:=Ms R o.dst G (d':=d') fun M ρ' hr=>Uk Mk CD hr
    obtain ⟨g3,g4⟩:=UD _ F7 H7 P Γ N ρ' _ _ g1;exact hK ρ' _ _ g3 (g2.trans ⟨g4,fun _ _ h=>h⟩) (C1 v) G.ext
theorem LG (hF:Dl F P) {ops:Array Oper} (BA:Dq ops=true) {Q:Exit -> Act -> World -> Prop}: ∀ (l:List Oper) (_: ∀ o∈l,o∈ops) {S:St} {ρ:List AN} {a:Act} {w:World} {As:Bw} {S':St} {vs:List Prop} {CL:Bw},
 Ad P Γ N S ρ a w -> Ej P Γ ops l S As=some (S',vs,CL) -> Bl vs ->
 (∀ ρ' a' w',Ad P Γ N S' ρ' a' w' -> Cr S.h ρ w S'.h ρ' w' -> a'.defers=a.defers -> Q .normal a' w') -> wpListIn F 0 P ops Q l a w
 | [],_,S,ρ,a,w,As,S',vs,CL,R,h,_,hQ=>by
  cases h;exact hQ ρ a w R (Cr.refl _ _ _) rfl
 | o::rest,hl,S,ρ,a,w,As,S',vs,CL,R,h,hv,hQ=>by
  have hd: ∀ c,o.op≠.defer c:=by
   obtain ⟨j,hj,e⟩:=Array.getElem_of_mem (hl o (by simp));exact H2 BA (j:=j) (by rw [zB hj,e])
  have EA: ∀ o∈rest,o∈ops:=fun o ho=>hl o (by simp [ho])
  have C1: ∀ v,(a.put o.dst v).defers=a.defers:=fun v=>by cases ho:o.dst <;> simp [Act.put]
  simp only [Ej] at h;unfold wpListIn;split at h
  ·split at h
   ·cases h
   ·rename_i S1 Cf ext1 L7 h1;split at h
    ·cases h
    ·rename_i S2 Eu Gj h2;cases h;obtain ⟨B3,CD⟩:=Cl.1 hv;exact Yy hF R hd h1 B3 fun ρ' a' w' R' st Dj _=>LG hF BA rest EA R' h2 CD fun ρ'' FS CC FT DP Gv=>hQ ρ'' FS CC FT (st.trans DP) (Gv.trans Dj)
  ·split at h
   ·cases h
   ·rename_i S1 Cf RB h1;split at h
    ·cases h
    ·rename_i S2 Eu Gj h2;cases h;obtain ⟨B3,CD⟩:=Cl.1 hv;obtain ⟨e1,hs⟩:=Se R h1 B3
     have go: ∀ v,Ad P Γ N S1 ρ (a.put o.dst v) w -> wpListIn F 0 P ops Q rest (a.put o.dst v) w:=fun v R'=>
      LG hF BA rest EA R' h2 CD fun ρ'' FS CC FT DP Gv=>hQ ρ'' FS CC FT (by rw [←e1];exact DP) (Gv.trans (C1 v))
     rcases hs with ⟨hw,v,g1,g2⟩ | ⟨hw,g2⟩
     ·rw [yP hw];refine ⟨fun f _=>hF.fn f,?_⟩;rw [zAf _ _ _ hd,g1 w (Keep.ofExt (Au.refl w))];exact go v g2
     ·rw [yb (by rw [hw];exact zAN)];exact ⟨fun f _=>hF.fn f,go undef g2⟩
theorem WG {ops:Array Oper}: ∀ (l:List Nat),∀ o∈FH ops l,o∈ops
 | [],o,h=>by simp [FH] at h
 | i::l,o,h=>by
  simp only [FH] at h;split at h
  ·rename_i o' ho;rcases yq.1 h with rfl | h
   ·exact zAC ho
   ·exact WG l o h
  ·exact WG l o h
theorem gm (hF:Dl F P) (R:Ad P Γ N S ρ a w) {hb:DH} {ops:Array Oper} {As:Bw} {o:Oper} {S':St} {vs:List Prop} {CL:Bw} (h:Yq P Γ hb ops S As o=some (S',vs,CL)) (hv:Bl vs)
 {K:Act -> World -> Prop} {Q:Exit -> Act -> World -> Prop} (hK: ∀ ρ' a' w',Ad P Γ N S' ρ' a' w' -> Cr S.h ρ w S'.h ρ' w' -> a'.defers=a.defers -> AQ (fun b=>∃ i o p,hb.length<=i/\ S.h[i]? =some (some o)/\ ρ[i]? =some p/\ p.foot b) w w' -> K a' w'):
 QD hb S.h=true/\ if Region.wanted o (yielded ops a.tmps) then o.wpIn F 0 P a w K Q else (∀ f,o.about P w a.eval=some f -> F.fn f)/\ K (a.put o.dst undef) w:=by
 have C1: ∀ v,(a.put o.dst v).defers=a.defers:=fun v=>by cases ho:o.dst <;> simp [Act.put]
 unfold Yq at h;split at h
 case h_2=>cases h
 rename_i c ho;split at h
 case h_2=>cases h
 rename_i f hc;split at h
 case h_2=>cases h
 rename_i g m cap d h' rest hf hcalls;split at h
 case h_2=>cases h
 rename_i hw hk;split at h;rename_i d' BZ C4 Mk;split at h
 case h_2=>cases h
 rename_i S1 NE JB F7;cases h;obtain ⟨B3,QP⟩:=hv;obtain ⟨CD,H7⟩:=Cl.1 QP;refine ⟨hk,?_⟩;rw [yP (JQ R hw)];refine KA hF (fun c e=>by rw [ho] at e;cases e) (gj R o ho hc hf B3.1 fun args ha=>B3.2 N ρ w args R.hr ha) fun v w' G=>?_
 obtain ⟨ρ',g1,g2⟩:=Ms R o.dst G.1 (d':=d') fun M ρ' hr=>Uk Mk CD hr
 obtain ⟨g3,g4⟩:=UD _ F7 H7 P Γ N ρ' _ _ g1;exact hK ρ' _ _ g3 (g2.trans ⟨g4,fun _ _ h=>h⟩) (C1 v) G.2
theorem pM {hb h:DH} {ρb ρ:List AN} {b w w':World} (HR:Bb P Γ N h ρ w) (hS:Cr hb ρb b h ρ w) (hE:Au b w) (hk:QD hb h=true) (hu:AQ (fun x=>∃ i o p,hb.length<=i/\ h[i]? =some (some o)/\ ρ[i]? =some p/\ p.foot x) w w'):Au b w':=by
 refine ((AQ.ofExt (S:=fun x=>∃ i o p,hb.length<=i/\ h[i]? =some (some o)/\ ρ[i]? =some p/\ p.foot x) hE).comp hu fun _ _ h=>h).toExt ?_;rintro x hx ⟨i,o,p,h1,h2,h3,h4⟩;rcases hS.st.grow x ⟨i,o,p,h2,h3,h4⟩ with ⟨k,o',q,g1,g2,g3⟩ | Ti
 ·have CV:=(yZ.1 g1).1;have:=ya.1 hk k (yh.2 CV);rw [show (hb.getD k none).isSome=true by rw [u8,g1];rfl,zS,zAG] at this;obtain ⟨o2,Xe⟩:=zA3.1 this;have Xe:h[k]? =some (some o2):=getD_some Xe;exact HR.dis i k o o2 p q x (by omega) h2 Xe h3 (hS.pl k q g2) h4 g3
 ·omega
theorem XN (hF:Dl F P) {ops:Array Oper} (BA:Dq ops=true) {Q:Exit -> Act -> World -> Prop}: ∀ (EL:List (List Nat×Nat)) (Bc tail:List Nat) {S:St} {ρ:List AN} {a:Act} {w:World} {As:Bw} {S':St} {vs:List Prop} {CL:Bw} {hb:DH} {ρb:List AN} {b:World},
 (tail.all fun t=>decide (t<ops.size))=true -> Ad P Γ N S ρ a w -> Cr hb ρb b S.h ρ w -> Au b w -> hseq P Γ ops hb EL Bc tail S As=some (S',vs,CL) -> Bl vs ->
 (∀ ρ' a' w',Ad P Γ N S' ρ' a' w' -> Cr S.h ρ w S'.h ρ' w' -> a'.defers=a.defers -> Q .normal a' w') -> OE F 0 P ops Q b EL Bc tail a w
 | [],Bc,tail,S,ρ,a,w,As,S',vs,CL,hb,ρb,b,ht,R,_,_,h,hv,hQ=>by
  simp only [hseq] at h;split at h
  ·cases h
  ·rename_i S1 Cf RB h1;split at h
   ·cases h
   ·rename_i S2 Eu Gj h2;cases h;obtain ⟨B3,CD⟩:=Cl.1 hv;refine ub ht (Pd _ R h1 B3 fun a' e1 R' Dj=>?_);exact LG hF BA _ (WG tail) R' h2 CD fun ρ'' FS CC FT DP Gv=>hQ ρ'' FS CC FT (by rw [←e1];exact DP) (Gv.trans Dj)
 | (Cg,i)::Ef,Bc,tail,S,ρ,a,w,As,S',vs,CL,hb,ρb,b,ht,R,hS,hE,h,hv,hQ=>by
  have Ck: ∃ ρb',Cr (bh Cg hb S.h) ρb' (bw Cg b w) S.h ρ w/\ Au (bw Cg b w) w:=by
   cases Cg with
   | nil=>exact ⟨ρb,hS,hE⟩
   | cons s0 ss=>exact ⟨ρ,Cr.refl _ _ _,Au.refl w⟩
  obtain ⟨ρb',LE,fT⟩:=Ck;simp only [hseq] at h;split at h
  ·cases h
  ·rename_i S1 Cf RB h1;split at h
   ·cases h
   ·rename_i o ho;split at h
    ·rename_i S2 Eu Gj h2;split at h
     ·cases h
     ·rename_i S3 Ld Jk h3;cases h;obtain ⟨B3,DJ⟩:=Cl.1 hv;obtain ⟨CD,H7⟩:=Cl.1 DJ
      show wpQuiet _ _ _ _ _ _
      refine Pd _ R h1 B3 fun a' e1 R' Dj=>?_
      unfold wpOpIn;simp only [ho];have hk:QD (bh Cg hb S.h) S1.h=true:=(gm (K:=fun _ _=>True) (Q:=fun _ _ _=>True) hF R' h2 CD fun _ _ _ _ _ _ _=>trivial).1;refine (gm hF R' h2 CD fun ρ'' FS CC FT DP Gv hu=>?_).2;rw [e1] at DP hk;have hx:Au (bw Cg b w) CC:=pM R.hr LE fT hk (by rw [e1] at hu;exact hu);exact ⟨hx,XN hF BA Ef Bc tail ht FT (LE.trans DP) hx h3 H7 fun ρ3 a3 w3 R3 KZ Xw=>hQ ρ3 a3 w3 R3 (DP.trans KZ) (Xw.trans (Gv.trans Dj))⟩
    ·split at h
     ·cases h
     ·rename_i S2 Eu ext Gj h2;split at h
      ·cases h
      ·split at h
       ·cases h
       ·rename_i S3 Ld Jk h3;cases h;obtain ⟨B3,DJ⟩:=Cl.1 hv;obtain ⟨CD,H7⟩:=Cl.1 DJ
        show wpQuiet _ _ _ _ _ _
        refine Pd _ R h1 B3 fun a' e1 R' Dj=>?_
        unfold wpOpIn;simp only [ho];refine Yy hF R' (H2 BA ho) h2 CD fun ρ'' FS CC FT DP Gv I5=>?_
        rw [e1] at DP;have hx:Au (bw Cg b w) CC:=fT.trans (I5 rfl);exact ⟨hx,XN hF BA Ef Bc tail ht FT (LE.trans DP) hx h3 H7 fun ρ3 a3 w3 R3 KZ Xw=>hQ ρ3 a3 w3 R3 (DP.trans KZ) (Xw.trans (Gv.trans Dj))⟩
end
end Go.Proofs.YtgkhhfnhacibcaaGreatDoor
namespace Go.Proofs.YtgkhhfnhacibcaaGreatDoor
abbrev zr:=@Nat.zero_le
end Go.Proofs.YtgkhhfnhacibcaaGreatDoor
namespace Go.Proofs.YtgkhhfnhacibcaaGreatDoor
open Go.RowKit
def EH (L:Nat) (ρ ρ':List AN):Prop:=∀ (k:Nat) (p:AN),k<L -> ρ[k]? =some p -> ρ'[k]? =some p
theorem EH.refl (L:Nat) (ρ:List AN):EH L ρ ρ:=fun _ _ _ h=>h
theorem EH.trans {L:Nat} {a b c:List AN} (h:EH L a b) (k:EH L b c):EH L a c:=fun i p hi hp=>k i p hi (h i p hi hp)
structure Bd (F:Fence) (B:Option Nat) (w:World):Prop where
 le: ∀ b,B=some b -> b<=w.heap.size
 rd: ∀ l,F.round=some l -> ∃ r,w.heap[l]? =some (.loop r)
theorem Bd.step {P:Program} {Γ:A9} {N:Nat -> Prop} {h h':DH} {ρ ρ':List AN} {F:Fence} {B:Option Nat} {w w':World} (b:Bd F B w) (H:Bb P Γ N h ρ w) (st:BO h ρ w h' ρ' w'):Bd F B w':=
 ⟨fun x e=>yf (b.le x e) st.upd.size,fun l hl=>by
  obtain ⟨r,hr⟩:=b.rd l hl;refine ⟨r,(st.upd.block l (yR.1 hr).1 ?_).trans hr⟩;rintro ⟨k,o,p,h1,h2,h3⟩;obtain ⟨_,_,c,t,z,h4⟩:=H.cel k o p l h1 h2 h3;rw [hr] at h4;cases h4;cases t⟩
theorem Bd.wide {B:Nat} {w:World} (h:B<=w.heap.size):Bd Fence.wide (some B) w:=⟨fun b e=>by cases e;exact h,fun l hl=>by cases hl⟩
theorem Bd.none {w:World}:Bd Fence.wide none w:=⟨fun b e=>(by cases e),fun l hl=>by cases hl⟩
def NB:Option Nat -> List Deferred -> World -> Prop
 | none,ds,_=>ds= []
 | some B,ds,w=>EG B ds w
structure Bg (P:Program) (Γ:A9) (L:Nat) where
 I:(Nat -> Prop) -> DH -> List AN -> World -> Prop
 st: ∀ {N:Nat -> Prop} {h:DH} {ρ:List AN} {w:World} {h':DH} {ρ':List AN} {w':World},I N h ρ w -> Bb P Γ N h ρ w -> Bb P Γ N h' ρ' w' -> BO h ρ w h' ρ' w' -> EH L ρ ρ' -> I N h' ρ' w'
def O5 (P:Program) (Γ:A9) (L:Nat) (N0:Nat -> Prop) (h0:DH) (ρ0:List AN) (w0:World):Bg P Γ L where
 I:=fun N h ρ w=>N=N0/\ BO h0 ρ0 w0 h ρ w/\ EH L ρ0 ρ
 st:=fun ⟨e,s,k⟩ _ _ st k'=>⟨e,s.trans st,k.trans k'⟩
abbrev QY (P:Program) (Γ:A9) (L:Nat):=Exit -> St -> Bg P Γ L -> Prop
def QE {P:Program} {Γ:A9} {L:Nat} (Q:QY P Γ L):Exit -> St -> Bg P Γ L -> Prop
 | .panic _,_,_=>False
 | .outgrown,_,_=>False
 | e,S,Y=>Q e S Y
def Tr (P:Program) (Γ:A9) (F:Fence) (B:Option Nat) (L:Nat) (Y:Bg P Γ L) (c:Code) (S:St) (Q:QY P Γ L):Prop:=
 ∀ N ρ a w,Ad P Γ N S ρ a w -> Y.I N S.h ρ w -> NB B a.defers w -> Bd F B w ->
  c.wpIn F 0 P (fun e a' w'=>∃ S' ρ' N' Y',QE Q e S' Y'/\ Ad P Γ N' S' ρ' a' w'/\ Y'.I N' S'.h ρ' w'/\ NB B a'.defers w'/\ Bd F B w') a w
def BW (L:Nat) (S S':St):Prop:=∀ P Γ N ρ a w,Ad P Γ N S ρ a w -> ∃ ρ',Ad P Γ N S' ρ' a w/\ BO S.h ρ w S'.h ρ' w/\ EH L ρ ρ'
theorem BW.refl (L:Nat) (S:St):BW L S S:=fun _ _ _ ρ _ _ R=>⟨ρ,R,BO.refl _ _ _,EH.refl _ _⟩
theorem BW.trans {L:Nat} {A B C:St} (h:BW L A B) (k:BW L B C):BW L A C:=fun P Γ N ρ a w R=>by
 obtain ⟨ρ1,R1,s1,k1⟩:=h P Γ N ρ a w R;obtain ⟨ρ2,R2,s2,k2⟩:=k P Γ N ρ1 a w R1;exact ⟨ρ2,R2,s1.trans s2,k1.trans k2⟩
section
variable {P:Program} {Γ:A9} {N:Nat -> Prop} {S:St} {F:Fence} {B:Option Nat} {L:Nat} {Y:Bg P Γ L} {Q Q':QY P Γ L}
theorem QE.mono (h: ∀ e S Y,Q e S Y -> Q' e S Y) {e:Exit} {S:St} (hq:QE Q e S Y):QE Q' e S Y:=by
 cases e <;> first | exact hq | exact h _ _ _ hq
theorem Tr.mono {c:Code} (h:Tr P Γ F B L Y c S Q) (hq: ∀ e S Y,Q e S Y -> Q' e S Y):Tr P Γ F B L Y c S Q':=fun N ρ a w R y m b=>
 zAY (h N ρ a w R y m b) fun _ _ _ ⟨S',ρ',N',Y',h1,h2⟩=>⟨S',ρ',N',Y',h1.mono hq,h2⟩
theorem Tr.weaken {c:Code} {S':St} (hS:BW L S S') (h:Tr P Γ F B L Y c S' Q):Tr P Γ F B L Y c S Q:=fun N ρ a w R y m b=>by
 obtain ⟨ρ1,R1,s1,k1⟩:=hS P Γ N ρ a w R;exact h N ρ1 a w R1 (Y.st y R.hr R1.hr s1 k1) m b
theorem P5 {ρ ρ':List AN} {h':DH} {ds:List Deferred} {w w':World} (H:Bb P Γ N S.h ρ w) (st:BO S.h ρ w h' ρ' w') (m:NB B ds w):NB B ds w':=by
 cases B with
 | none=>exact m
 | some B=>
 refine EG.upd st.upd m fun k _ hk e=>?_
 obtain ⟨i,o,p,h1,h2,h3⟩:=hk;obtain ⟨_,_,c,t,z,h4⟩:=H.cel i o p k h1 h2 h3;rw [h4] at e;cases e;cases t
theorem Tr.skip (h:Q .normal S Y):Tr P Γ F B L Y .skip S Q:=fun N ρ _ _ R y m b=>wpIn_skip ⟨S,ρ,N,Y,h,R,y,m,b⟩
theorem Tr.ret (h:Q .ret S Y):Tr P Γ F B L Y .ret S Q:=fun N ρ _ _ R y m b=>wpIn_ret ⟨S,ρ,N,Y,h,R,y,m,b⟩
theorem Tr.exit {id:Nat} (h:Q (.exit id) S Y):Tr P Γ F B L Y (.exit id) S Q:=fun N ρ _ _ R y m b=>wpIn_exit ⟨S,ρ,N,Y,h,R,y,m,b⟩
def Oy (K:St -> Bg P Γ L -> Prop) (Q:QY P Γ L):QY P Γ L
 | .normal,S,Y=>K S Y
 | e,S,Y=>Q e S Y
theorem Tr.seq {x y:Code} (h:Tr P Γ F B L Y x S (Oy (fun S' Y'=>Tr P Γ F B L Y' y S' Q) Q)):Tr P Γ F B L Y (.seq x y) S Q:=fun N ρ a w R y m b=>by
 refine wpIn_seq (zAY (h N ρ a w R y m b) ?_);rintro e a' w' ⟨S',ρ',N',Y',h1,h2,h3,h4,h5⟩;cases e with
 | normal=>exact h1 N' ρ' a' w' h2 h3 h4 h5
 | ret=>exact ⟨S',ρ',N',Y',h1,h2,h3,h4,h5⟩
 | exit id=>exact ⟨S',ρ',N',Y',h1,h2,h3,h4,h5⟩
 | goto t=>exact ⟨S',ρ',N',Y',h1,h2,h3,h4,h5⟩
 | panic c=>exact h1.elim
 | outgrown=>exact h1.elim
theorem Tr.cond {c:Operand} {x y:Code} {b:Bool} (hc:Ac S.fr c= .bool b) (h1:b=true -> Tr P Γ F B L Y x S Q) (h2:b=false -> Tr P Γ F B L Y y S Q):Tr P Γ F B L Y (.cond c x y) S Q:=fun N ρ a w R y m bb=>by
 have hr:=Bm R c;rw [hc] at hr;refine wpIn_cond (t:=b) hr ?_;cases b
 ·exact h2 rfl N ρ a w R y m bb
 ·exact h1 rfl N ρ a w R y m bb
theorem i5 {F:Fence} {n:Nat} {P:Program} {Q:Exit -> Act -> World -> Prop} {a:Act} {w:World} {c:Code} (h:c.wpIn F n P (Exit.noGoto Q) a w):(Code.scope c).wpIn F n P Q a w:=by
 intro b k cs sH hb hr;have h0:(lone (b.atR a (.code (.scope c)::k)) cs w).fenced P F:=fenced_calm hb hr rfl;have s0:step P (lone (b.atR a (.code (.scope c)::k)) cs w)= .next (lone (b.atR a (.code c:: .inScope c::k)) cs w):=step_lone_go (by simp [stepG,stepG.exec,Frame.atR]);obtain ⟨e,a₁,w₁,hq,OJ⟩:=h b (.inScope c::k) cs sH hb hr;have s1:step P (lone (b.atR a₁ (.inScope c::k)) cs w₁)= .next (lone (b.atR a₁ k) cs w₁):=step_lone_go (by simp [stepG,stepG.exec,Frame.atR]);cases e with
 | normal=>exact ⟨.normal,a₁,w₁,hq,.head h0 s0 (StepsIn.trans OJ (.one (fenced_calm hb hr rfl) s1))⟩
 | exit id=>exact ⟨.exit id,a₁,w₁,hq,fun k' hk=>.head h0 s0 (OJ.1 k' hk),fun Cz hk=>let ⟨k₁,h1,h2⟩:=OJ.2 Cz hk;⟨k₁,h1,.head h0 s0 h2⟩⟩
 | goto l=>exact hq.elim
 | ret=>exact ⟨_,a₁,w₁,hq,.of_steps (.one h0 s0) OJ⟩
 | panic ch=>exact ⟨_,a₁,w₁,hq,.of_steps (.one h0 s0) OJ⟩
 | outgrown=>exact ⟨_,a₁,w₁,hq,.of_steps (.one h0 s0) OJ⟩
def pK (Q:QY P Γ L):QY P Γ L
 | .goto _,_,_=>False
 | e,S,Y=>Q e S Y
theorem Tr.scope {c:Code} (h:Tr P Γ F B L Y c S (pK Q)):Tr P Γ F B L Y (.scope c) S Q:=fun N ρ a w R y m b=>by
 refine i5 (zAY (h N ρ a w R y m b) ?_);rintro e a' w' ⟨S',ρ',N',Y',h1,h2⟩;cases e with
 | goto l=>exact h1.elim
 | _=>exact ⟨S',ρ',N',Y',h1,h2⟩
theorem Tr.label {l:Nat} (h:Q .normal S Y):Tr P Γ F B L Y (.label l) S Q:=fun N ρ a w R y m b=>wpIn_label ⟨S,ρ,N,Y,h,R,y,m,b⟩
def xP (id:Nat) (Q:QY P Γ L):QY P Γ L
 | .exit i,S,Y=>if i=id then Q .normal S Y else Q (.exit i) S Y
 | e,S,Y=>Q e S Y
theorem Tr.block {id:Nat} {c:Code} (h:Tr P Γ F B L Y c S (xP id Q)):Tr P Γ F B L Y (.block id c) S Q:=fun N ρ a w R y m b=>by
 refine wpIn_block (zAY (h N ρ a w R y m b) ?_);rintro e a' w' ⟨S',ρ',N',Y',h1,h2⟩;cases e with
 | exit i=>
  show if i=id then _ else _
  by_cases e:i=id
  ·rw [yP e];have h1:(if i=id then Q .normal S' Y' else Q (.exit i) S' Y'):=h1;rw [yP e] at h1;exact ⟨S',ρ',N',Y',h1,h2⟩
  ·rw [yb e];have h1:(if i=id then Q .normal S' Y' else Q (.exit i) S' Y'):=h1;rw [yb e] at h1;exact ⟨S',ρ',N',Y',h1,h2⟩
 | normal=>exact ⟨S',ρ',N',Y',h1,h2⟩
 | ret=>exact ⟨S',ρ',N',Y',h1,h2⟩
 | goto t=>exact ⟨S',ρ',N',Y',h1,h2⟩
 | panic c=>exact h1.elim
 | outgrown=>exact h1.elim
theorem Tr.loop {c:Code} (I:Nat -> St -> Bg P Γ L -> Prop) (n:Nat) (h0:I n S Y) (h: ∀ n S Y,I n S Y -> Tr P Γ F B L Y c S (Oy (fun S' Y'=>∃ n',n'<n/\ I n' S' Y') Q)):Tr P Γ F B L Y (.loop c) S Q:=fun N ρ a w R y m b=>by
 refine wpIn_loop_ghost (fun k a' w'=>∃ S' ρ' N' Y',I k S' Y'/\ Ad P Γ N' S' ρ' a' w'/\ Y'.I N' S'.h ρ' w'/\ NB B a'.defers w'/\ Bd F B w') n ⟨S,ρ,N,Y,h0,R,y,m,b⟩ ?_;rintro k a' w' ⟨S',ρ',N',Y',h1,h2,h3,h4,h5⟩;refine zAY (h k S' Y' h1 N' ρ' a' w' h2 h3 h4 h5) ?_;rintro e a2 w2 ⟨S2,ρ2,N2,Y2,g1,g2,g3,g4,g5⟩;cases e with
 | normal=>
  obtain ⟨n',AU,hI⟩:=g1;exact ⟨n',AU,S2,ρ2,N2,Y2,hI,g2,g3,g4,g5⟩
 | ret=>exact ⟨S2,ρ2,N2,Y2,g1,g2,g3,g4,g5⟩
 | exit id=>exact ⟨S2,ρ2,N2,Y2,g1,g2,g3,g4,g5⟩
 | goto t=>exact ⟨S2,ρ2,N2,Y2,g1,g2,g3,g4,g5⟩
 | panic c=>exact g1.elim
 | outgrown=>exact g1.elim
theorem Ad.ext {ρ:List AN} {a:Act} {w w':World} (R:Ad P Γ N S ρ a w) (hE:Au w w'):Ad P Γ N S ρ a w':=⟨R.hr.ext hE,R.fr.out (Bi.ext ρ hE)⟩
theorem Tr.done {S':St} {e:Exit} {ρ ρ':List AN} {a a':Act} {w w':World} (R:Ad P Γ N S ρ a w) (y:Y.I N S.h ρ w) (m:NB B a.defers w) (b:Bd F B w) (hk:QE Q e S' Y) (R':Ad P Γ N S' ρ' a' w') (st:BO S.h ρ w S'.h ρ' w') (Xk:EH L ρ ρ') (Dj:a'.defers=a.defers):
 ∃ S' ρ' N' Y',QE Q e S' Y'/\ Ad P Γ N' S' ρ' a' w'/\ Y'.I N' S'.h ρ' w'/\ NB B a'.defers w'/\ Bd F B w':=
 ⟨S',ρ',N,Y,hk,R',Y.st y R.hr R'.hr st Xk,by rw [Dj];exact P5 R.hr st m,b.step R.hr st⟩
theorem BW.fr {fr Mt:List DV} {h:DH} (hl:Mt.length=fr.length) (hd: ∀ i,i<fr.length -> AS (fr.getD i .any) (Mt.getD i .any)):BW L ⟨fr,h⟩ ⟨Mt,h⟩:=fun P Γ N ρ a w R=>
 ⟨ρ,⟨R.hr,⟨by rw [hl];exact R.fr.1,fun i hi=>hd i (by rw [←hl];exact hi) _ _ _ _ (R.fr.2 i (by rw [←hl];exact hi))⟩⟩,BO.refl _ _ _,EH.refl _ _⟩
theorem AS.refl (d:DV):AS d d:=fun _ _ _ _ h=>h
theorem AS.any (d:DV):AS d .any:=fun _ _ _ _ _=>trivial
theorem AS.int {k:IntKind} {a b:Int} (h:a=b):AS (.int k a) (.int k b):=by rw [h];exact AS.refl _
theorem AS.bool {a b:Bool} (h:a=b):AS (.bool a) (.bool b):=by rw [h];exact AS.refl _
theorem AS.ints_nil:AS .nils (.ints []):=fun M w ρ v h=>⟨none,0,h,ym _,zr _,fun j hj=>absurd hj (yg j)⟩
theorem AS.sl_nil (m:Nat) (f:Nat -> Nat -> DV):AS .nils (.sl m 0 f):=fun M w ρ v h=>⟨none,0,h,ym _,zr _,fun i j hi=>absurd hi (yg i)⟩
def forget (live:List Nat) (fr:List DV):List DV:=(fr.zipIdx).map fun x=>if live.contains x.2 then x.1 else .any
theorem vV (live:List Nat) (fr:List DV):(forget live fr).length=fr.length:=by simp [forget]
theorem vW (live:List Nat) (fr:List DV) {i:Nat} (hi:i<fr.length):(forget live fr).getD i .any=if live.contains i then fr.getD i .any else .any:=by
 simp [forget,hi]
theorem BW.forget (live:List Nat) (fr:List DV) (h:DH):BW L ⟨fr,h⟩ ⟨forget live fr,h⟩:=BW.fr (vV _ _) fun i hi=>by
 rw [vW live fr hi];split
 ·exact AS.refl _
 ·exact AS.any _
def De:List Nat -> Nat -> Option Nat
 | [],_=>none
 | x::σ,k=>if x=k then some 0 else (De σ k).map (· +1)
def FE (σ:List Nat):DV -> DV
 | .ref k j=>match De σ k with
  | some k'=>.ref k' j
  | none=>.any
 | .mse k m off n=>match De σ k with
  | some k'=>.mse k' m off n
  | none=>.any
 | .mri k i=>match De σ k with
  | some k'=>.mri k' i
  | none=>.any
 | .msl k m off n=>match De σ k with
  | some k'=>.msl k' m off n
  | none=>.any
 | .mp k m i j=>match De σ k with
  | some k'=>.mp k' m i j
  | none=>.any
 | .it k=>match De σ k with
  | some k'=>.it k'
  | none=>.any
 | .agg m f=>.agg m fun j=>((List.range m).map fun i=>FE σ (f i)).getD j .any
 | .tup m f=>.tup m fun j=>((List.range m).map fun i=>FE σ (f i)).getD j .any
 | .fn g m c=>.fn g m fun j=>((List.range m).map fun i=>FE σ (c i)).getD j .any
 | d=>d
def SW (σ:List Nat):Option DO -> Option DO
 | some (.cells l)=>some (.cells (l.map (FE σ)))
 | o=>o
def FN (σ:List Nat) (S:St):St:=⟨S.fr.map (FE σ),σ.map fun k=>SW σ (S.h.getD k none)⟩
theorem Jd: ∀ {σ:List Nat} {k k':Nat},De σ k=some k' -> σ[k']? =some k
 | [],_,_,h=>by cases h
 | x::σ,k,k',h=>by
  unfold De at h;split at h
  ·rename_i e;cases h;subst e;rfl
  ·cases hr:De σ k with
   | none=>rw [hr] at h;cases h
   | some i=>
    rw [hr] at h;have e:k'=i+1:=(yY h).symm;subst e;have:=Jd hr;simpa using this
theorem ny {f:Nat -> DV} {m j:Nat} (hj:j<m):((List.range m).map f).getD j .any=f j:=by simp [hj]
theorem V3 {M:Nat -> Prop} {w:World} {ρ:List AN} {f:Nat -> DV} {m j:Nat} {u:Value} (hj:j<m) (h:AO M w (f j) ρ u):AO M w (((List.range m).map f).getD j .any) ρ u:=by rw [ny hj];exact h
theorem nY {M M':Nat -> Prop} {w:World} {σ:List Nat} {ρ ρ':List AN} (hM: ∀ b,M' b -> M b) (hρ: ∀ (k k':Nat) (p:AN),σ[k']? =some k -> ρ[k]? =some p -> ρ'[k']? =some p): ∀ (d:DV) {v:Value},AO M w d ρ v -> AO M' w (FE σ d) ρ' v:=by
 have low: ∀ (d:DV) {v:Value},AO M w d [] v -> AO M' w d [] v:=fun d v h=>h.out d ⟨fun _ _ _ _=>rfl,fun b hb=>.inl (hM b hb),fun k p hk=>by simp at hk⟩
 intro d
 induction d with
 | any=>intro v _;trivial
 | nils=>intro v h;exact h
 | int k n=>intro v h;exact h
 | bool b=>intro v h;exact h
 | str s=>intro v h;exact h
 | ints l=>intro v h;exact low (.ints l) h
 | bools l=>intro v h;exact low (.bools l) h
 | sl m n f _=>intro v h;exact low (.sl m n f) h
 | fp m f _=>intro v h;exact low (.fp m f) h
 | agg m f ih=>
  rintro v ⟨cs,e,hs,h⟩;exact ⟨cs,e,hs,fun j hj=>let ⟨u,h1,h2⟩:=h j hj;⟨u,h1,V3 hj (ih j h2)⟩⟩
 | tup m f ih=>
  rintro v ⟨cs,e,hs,h⟩;exact ⟨cs,e,hs,fun j hj=>let ⟨u,h1,h2⟩:=h j hj;⟨u,h1,V3 hj (ih j h2)⟩⟩
 | fn g m c ih=>
  rintro v ⟨cs,e,hs,h⟩;exact ⟨cs,e,hs,fun j hj=>let ⟨u,h1,h2⟩:=h j hj;⟨u,h1,V3 hj (ih j h2)⟩⟩
 | ref k j=>
  rintro v ⟨p,hp,e⟩;simp only [FE];cases hk:De σ k with
  | none=>trivial
  | some k'=>exact ⟨p,hρ k k' p (Jd hk) hp,e⟩
 | msl k m off n=>
  rintro v ⟨p,cap,hp,r⟩;simp only [FE];cases hk:De σ k with
  | none=>trivial
  | some k'=>exact ⟨p,cap,hρ k k' p (Jd hk) hp,r⟩
 | mp k m i j=>
  rintro v ⟨p,hp,e⟩;simp only [FE];cases hk:De σ k with
  | none=>trivial
  | some k'=>exact ⟨p,hρ k k' p (Jd hk) hp,e⟩
 | yl l=>intro v h;exact h
 | cst u=>intro v h;exact h
 | mse k m off n=>
  rintro v ⟨p,a,cap,hp,r⟩;simp only [FE];cases hk:De σ k with
  | none=>trivial
  | some k'=>exact ⟨p,a,cap,hρ k k' p (Jd hk) hp,r⟩
 | mri k i=>
  rintro v ⟨p,vs,hp,r⟩;simp only [FE];cases hk:De σ k with
  | none=>trivial
  | some k'=>exact ⟨p,vs,hρ k k' p (Jd hk) hp,r⟩
 | it k=>
  rintro v ⟨p,hp,e⟩;simp only [FE];cases hk:De σ k with
  | none=>trivial
  | some k'=>exact ⟨p,hρ k k' p (Jd hk) hp,e⟩
def cY:AN:=⟨0,0,0,undef,fun _=>False⟩
theorem BW.compact (σ:List Nat) (S:St) (h1:σ.Nodup) (h2: ∀ k∈σ,k<S.h.length) (h3: ∀ k,k<L -> σ[k]? =some k):BW L S (FN σ S):=fun P Γ N ρ a w R=>by
 obtain ⟨ρ',Js⟩: ∃ ρ',ρ'=σ.map fun k=>ρ.getD k cY:=⟨_,rfl⟩
 have IE: ∀ {k':Nat} {p:AN},ρ'[k']? =some p -> ∃ k,σ[k']? =some k/\ ρ[k]? =some p:=fun {k' p} h=>by
  rw [Js,y9] at h;cases hk:σ[k']? with
  | none=>rw [hk] at h;cases h
  | some k=>
   rw [hk] at h;have AU:k<ρ.length:=by rw [R.hr.len];exact h2 k (zX hk)
   refine ⟨k,rfl,?_⟩;simp [AU] at h;simp [AU,h]
 have put: ∀ (k k':Nat) (p:AN),σ[k']? =some k -> ρ[k]? =some p -> ρ'[k']? =some p:=fun k k' p hk hp=>by
  rw [Js,y9,hk];simp [u8,hp]
 have IB: ∀ {k':Nat} {o':DO},(FN σ S).h[k']? =some (some o') -> ∃ k o,σ[k']? =some k/\ S.h[k]? =some (some o)/\ SW σ (some o)=some o':=fun {k' o'} h=>by
  show ∃ k o,_
  have h:(σ.map fun k=>SW σ (S.h.getD k none))[k']? =some (some o'):=h;rw [y9] at h;cases hk:σ[k']? with
  | none=>rw [hk] at h;cases h
  | some k=>
   rw [hk] at h;have AU:k<S.h.length:=h2 k (zX hk);have h:SW σ (S.h.getD k none)=some o':=yY h;have e:S.h.getD k none=S.h[k]:=by simp [AU]
   rw [e] at h;cases ho:S.h[k] with
   | none=>rw [ho] at h;cases h
   | some o=>rw [ho] at h;exact ⟨k,o,rfl,by simp [AU,ho],h⟩
 have hM: ∀ b,MO (FN σ S).h ρ' b -> MO S.h ρ b:=by
  rintro b ⟨k',o',p,g1,g2,g3⟩;obtain ⟨k,o,e1,e2,_⟩:=IB g1;obtain ⟨k2,e3,e4⟩:=IE g2;have:k2=k:=yY (e3.symm.trans e1);subst this;exact ⟨k2,o,p,e2,e4,g3⟩
 have X8: ∀ b,MS N (FN σ S).h ρ' b -> MS N S.h ρ b:=fun b hb=>hb.imp id (hM b)
 have O:Bi (MS N S.h ρ) w [] (MS N (FN σ S).h ρ') w []:=⟨fun _ _ _ _=>rfl,fun b hb=>.inl (X8 b hb),fun k p hk=>by simp at hk⟩;have low: ∀ (d:DV) {v:Value},AO (MS N S.h ρ) w d ρ v -> AO (MS N (FN σ S).h ρ') w (FE σ d) ρ' v:=fun d v h=>nY X8 put d h
 refine ⟨ρ',⟨⟨by simp [Js,FN],fun k' o' Co=>?_,fun k' o' p b g1 g2 g3=>?_,fun i i' o1 o2 p1 p2 b Ap g1 g2 g3 g4 g5 g6=>?_,R.hr.nlt,R.hr.gi⟩,⟨by simp [FN,R.fr.1],fun i hi=>?_⟩⟩,⟨AQ.refl _ w,fun b hb=>.inl (hM b hb)⟩,fun k p hk hp=>put k k p (h3 k hk) hp⟩
 ·obtain ⟨k,o,e1,e2,e3⟩:=IB Co;obtain ⟨p,hp,hr⟩:=R.hr.obj k o e2;refine ⟨p,put k k' p e1 hp,?_⟩;cases o with
  | cells l=>
   cases e3
   show Ak w p (l.map (FE σ)).length _
   rw [zf];refine Ak.out hr rfl fun j u hj hu=>?_
   have:(l.map (FE σ)).getD j .any=FE σ (l.getD j .any):=by simp [hj]
   rw [this];exact low _ hu
  | ints l=>cases e3;exact Ak.out hr rfl fun j u _ hu=>hu
  | bools l=>cases e3;exact Ak.out hr rfl fun j u _ hu=>hu
  | arr m n f=>cases e3;exact Ak.out hr rfl fun j u _ hu=>AO.out _ O hu
  | iter encs=>
   cases e3;obtain ⟨gf,lb,Rd,q1,q2,q3,q4⟩:=hr;exact ⟨gf,lb,Rd,q1,q2,fun b hb=>⟨fun hm=>(q3 b hb).1 (X8 b hm),(q3 b hb).2⟩,q4⟩
  | mo x=>cases e3;exact hr
 ·obtain ⟨k,o,e1,e2,_⟩:=IB g1;obtain ⟨k2,e3,e4⟩:=IE g2;have:k2=k:=yY (e3.symm.trans e1);subst this;exact R.hr.cel k2 o p b e2 e4 g3
 ·obtain ⟨k,o,e1,e2,_⟩:=IB g1;obtain ⟨k2,o2,e3,e4,_⟩:=IB g2;obtain ⟨k3,e5,e6⟩:=IE g3;obtain ⟨k4,e7,e8⟩:=IE g4;have:k3=k:=yY (e5.symm.trans e1);subst this;have:k4=k2:=yY (e7.symm.trans e3);subst this;refine R.hr.dis k3 k4 o o2 p1 p2 b (fun e=>Ap ?_) e2 e4 e6 e8 g5 g6;subst e;exact (List.getElem?_inj (yZ.1 e5).1 h1).1 (e5.trans e7.symm)
 ·have BN:i<S.fr.length:=by simpa [FN] using hi
  have:(FN σ S).fr.getD i .any=FE σ (S.fr.getD i .any):=by simp [FN,BN]
  rw [this];exact low _ (R.fr.2 i BN)
end
end Go.Proofs.YtgkhhfnhacibcaaGreatDoor
namespace Go.Proofs.YtgkhhfnhacibcaaGreatDoor
open Go.RowKit
def bW (P:Program) (S:St):ResultVar -> Option DV
 | .tmp t=>some (S.fr.getD t .any)
 | .cell x t=>match S.fr.getD x .any with
  | .ref k j=>match MI P S t (.ref k j) with
   | some (d,_)=>some d
   | none=>none
  | _=>none
def NZ (P:Program) (S:St):List ResultVar -> Option (List DV)
 | []=>some []
 | r::rs=>match bW P S r with
  | some d=>match NZ P S rs with
   | some ds=>some (d::ds)
   | none=>none
  | none=>none
def IY:List DV -> DV
 | [d]=>d
 | ds=>.tup ds.length fun j=>ds.getD j .any
section
variable {P:Program} {Γ:A9} {N:Nat -> Prop} {S:St} {ρ:List AN} {a:Act} {w:World}
theorem p6 {t:TypeId} {k j:Nat} {d:DV} {vc:Prop} (h:MI P S t (.ref k j)=some (d,vc)):vc:=by
 unfold MI at h
 repeat' (split at h)
 all_goals first | (cases h;trivial) | (cases h;done) | (simp_all;done)
def SV (tmps:Array Value):ResultVar -> Sem Value
 | .tmp t=>pure (tmps.getD t undef)
 | .cell x t=>do loadVar t (←asAddr (tmps.getD x undef))
theorem bX (R:Ad P Γ N S ρ a w): ∀ (rs:List ResultVar) (ds:List DV),NZ P S rs=some ds -> ∃ vs:List Value,(rs.mapM (SV a.tmps)).run P w= .ok vs w/\ vs.length=ds.length/\ ∀ i,i<ds.length -> AO (MS N S.h ρ) w (ds.getD i .any) ρ (vs.getD i undef)
 | [],ds,h=>by
  cases h;exact ⟨[],rfl,rfl,fun i hi=>absurd hi (yg i)⟩
 | r::rs,ds,h=>by
  simp only [NZ] at h;split at h
  ·rename_i d hd;split at h
   ·rename_i wF FM;cases h;obtain ⟨vs,h1,h2,h3⟩:=bX R rs wF FM
    obtain ⟨v,g1,g2⟩: ∃ v,(SV a.tmps r).run P w= .ok v w/\ AO (MS N S.h ρ) w d ρ v:=by
     unfold bW at hd;split at hd
     ·cases hd;exact ⟨_,rfl,R.fr.at _⟩
     ·rename_i x t;split at hd
      ·rename_i k j e;split at hd
       ·rename_i d' vc hl;cases hd;have hx:=R.fr.at x;rw [e] at hx;obtain ⟨v,q1,q2⟩:=dH R hx hl (p6 hl);obtain ⟨p,hp,hv⟩:=hx;have q:=q1 w (Keep.ofExt (Au.refl w));rw [hv,Vq] at q;refine ⟨v,?_,q2⟩
        show (do loadVar t (←asAddr (a.tmps.getD x undef)):Sem Value).run P w=_
        rw [hv];exact q
       ·cases hd
      ·cases hd
    refine ⟨v::vs,?_,by simp [h2],fun i hi=>?_⟩
    ·rw [List.mapM_cons,yj,g1];simp only [Result.andThen,yj,h1,zAy]
    ·cases i with
     | zero=>exact g2
     | succ i=>exact h3 i (by simpa using hi)
   ·cases h
  ·cases h
theorem bV (R:Ad P Γ N S ρ a w) {fn:Func} {ds:List DV} (h:NZ P S fn.results.toList=some ds): ∃ v,(results fn a.tmps).run P w= .ok v w/\ AO (MS N S.h ρ) w (IY ds) ρ v:=by
 obtain ⟨vs,h1,h2,h3⟩:=bX R _ _ h
 have hm:(fn.results.mapM (SV a.tmps)).run P w= .ok vs.toArray w:=by
  rw [Array.mapM_eq_mapM_toList,←bind_pure_comp,yj,h1];rfl
 have Tn:(results fn a.tmps).run P w= .ok (if h:vs.toArray.size=1 then vs.toArray[0] else .tuple vs.toArray) w:=by
  show (do let vs←fn.results.mapM (SV a.tmps);pure (if h:vs.size=1 then vs[0] else .tuple vs):Sem Value).run P w=_
  rw [yj,hm];rfl
 refine ⟨_,Tn,?_⟩
 match ds,vs,h2,h3 with
 | [],[],_,_=>exact ⟨#[],rfl,rfl,fun j hj=>absurd hj (yg j)⟩
 | [d],[v],_,h3=>exact h3 0 (by simp)
 | d::d'::ds,v::v'::vs,h2,h3=>
  have: ¬ ((v::v'::vs).toArray.size=1):=by simp
  rw [dif_neg this];refine ⟨_,rfl,by simpa using h2,fun j hj=>?_⟩;have BM:j<(v::v'::vs).length:=by rw [h2];exact hj
  exact ⟨(v::v'::vs).getD j undef,by simp only [zBI,u8,yQ BM];rfl,h3 j hj⟩
def Pz (h:DH):Prop:=∀ (k:Nat) (encs:List (Array Value)),h[k]? ≠some (some (.iter encs))
theorem Ad.shut (R:Ad P Γ N S ρ a w) (hi:Pz S.h) {B:Nat} (hB:Γ.ng<=B) {W:World} (hs:RT B w W):Ad P Γ N S ρ a W:=by
 have nc: ∀ {b:Nat},DD w b -> W.heap[b]? =w.heap[b]? :=fun {b} ⟨c,t,z,h⟩=>
  hs.block b (yR.1 h).1 fun hx=>by rw [h] at hx;cases hx.2;cases t
 have O:Bi (MS N S.h ρ) w ρ (MS N S.h ρ) W ρ:=⟨fun b _ _ ⟨_,_,_,hc⟩=>nc (.cells hc),fun b h=>.inl h,fun _ _ h=>h⟩
 have hr: ∀ {p:AN} {n:Nat} {Rw:Nat -> Value -> Prop},Ak w p n Rw -> W.heap[p.blk]? =w.heap[p.blk]? :=fun {p n Rw} h=>by
  obtain ⟨_,cs,t,h2,_⟩:=h;exact nc (.cells h2)
 refine ⟨⟨R.hr.len,fun k o hk=>?_,fun k o p b h1 h2 h3=>?_,R.hr.dis,fun b hb=>⟨yc (R.hr.nlt b hb).1 hs.size,(R.hr.nlt b hb).2⟩,Γ.st _ _ R.hr.gi (hs.mono fun i _ hx=>yf hB hx.1)⟩,R.fr.out O⟩
 ·obtain ⟨p,hp,ho⟩:=R.hr.obj k o hk;refine ⟨p,hp,?_⟩;cases o with
  | cells l=>exact Ak.out ho (hr ho) fun j u _ hu=>AO.out _ O hu
  | ints l=>exact Ak.out ho (hr ho) fun j u _ hu=>hu
  | bools l=>exact Ak.out ho (hr ho) fun j u _ hu=>hu
  | arr m n f=>exact Ak.out ho (hr ho) fun j u _ hu=>AO.out _ O.nil hu
  | iter encs=>exact absurd hk (hi k encs)
  | mo x=>exact LX.out ho fun b hb AU=>nc (R.hr.cel k _ p b hk hp hb).2.2
 ·obtain ⟨g1,g2,c,t,z,g3⟩:=R.hr.cel k o p b h1 h2 h3;exact ⟨g1,g2,c,t,z,(nc ⟨c,t,z,g3⟩).trans g3⟩
theorem BO.shut {h0 h:DH} {ρ0 ρ:List AN} {w0 w W:World} (st:BO h0 ρ0 w0 h ρ w) (hs:RT w0.heap.size w W):BO h0 ρ0 w0 h ρ W:=
 ⟨st.upd.comp hs fun i hi hx=>absurd hx.1 (by omega),st.grow⟩
theorem B8.anys (M:Nat -> Prop) (w:World) (ρ:List AN) (n:Nat):B8 M w ρ (List.replicate n .any) (Array.replicate n undef):=
 ⟨by simp,fun i hi=>by
  have:(List.replicate n DV.any).getD i .any= .any:=by
   rw [u8,zj];split <;> rfl
  rw [this];trivial⟩
def Hf (d:DV):Prop:=∀ (M:Nat -> Prop) (w:World) (ρ:List AN) (v:Value),AO M w d ρ v -> AO M w d [] v
def yM (L:Nat) (S:St) (rs:List DV) (d:DV) (h':DH):Prop:=
 (AS (IY rs) d/\ S.h=h')∨(Pz S.h/\ AS (IY rs) d/\ Hf d/\ L<=S.h.length/\ (FN (List.range L) S).h=h')
def Fo (P:Program) (fn:Func) (L:Nat) (d:DV) (h':DH) (e:Exit) (S':St):Prop:=
 (e= .normal∨e= .ret)/\ ∃ Ce,BW L S' Ce/\ ∃ rs,NZ P Ce fn.results.toList=some rs/\ yM L Ce rs d h'
theorem ES.of_tr {f:Nat} {fn:Func} {c:Code} {ds:List DV} {h:DH} {d:DV} {h':DH} {ext:Bool} (hf:P.funcs[f]? =some fn) (hb:fn.body=some c) (J0:fn.name≠ "runtime.NumGoroutine") (QT:Pz h')
 (H: ∀ (B:Nat) (N:Bg P Γ h.length),Tr P Γ Fence.wide (some B) h.length N c ⟨ds++List.replicate (fn.ntmps-ds.length) .any,h⟩ (fun e S Y=>Y=N/\ Fo P fn h.length d h' e S)) (I5:ext=true -> h= []):ES P Γ f ds h d h' ext:=by
 refine ⟨⟨fn,hf,J0,by rw [hb];rfl⟩,fun N ρ w args HR Ci=>?_⟩;refine xH w.heap.size hf hb ?_;have Ay:ds.length=args.size:=Ci.1
 have R:Ad P Γ N ⟨ds++List.replicate (fn.ntmps-ds.length) .any,h⟩ ρ { tmps:=args++Array.replicate (fn.ntmps-args.size) undef,defers:=[] } w:=
  ⟨HR,B8.append Ci (by rw [Ay];exact B8.anys _ _ _ _)⟩
 have:=H w.heap.size (O5 P Γ h.length N h ρ w) N ρ _ w R ⟨rfl,BO.refl _ _ _,EH.refl _ _⟩ trivial (Bd.wide (ym _));refine wpIn_wide.1 (zAY this ?_);rintro e a' w' ⟨S',ρ',N',Y',h1,h2,h3,h4,h5⟩
 have key:Y'=O5 P Γ h.length N h ρ w -> Fo P fn h.length d h' e S' -> EG w.heap.size a'.defers w'/\ ∀ W,RT w.heap.size w' W -> ∃ v,(results fn a'.tmps).run P W= .ok v W/\ ∃ v',Ending.returned v= .returned v'/\ C6 P Γ N h ρ w ext d h' v' W:=by
  rintro rfl ⟨_,Ce,CR,rs,Tl,hd | ⟨hi,hd,hn,hl,hh⟩⟩
  all_goals
   obtain ⟨e0,h3,h5⟩:=h3;have e0:=e0.symm;subst e0
  ·obtain ⟨hd,rfl⟩:=hd;refine ⟨h4,fun W hW=>?_⟩;obtain ⟨ρ'',FT,VS,Ww⟩:=CR P Γ N ρ' a' w' h2;have RW:=FT.shut QT (Γ.lo _ HR.gi) hW;obtain ⟨v,g1,g2⟩:=bV RW Tl;have st:BO h ρ w Ce.h ρ'' W:=(h3.trans VS).shut hW;refine ⟨v,g1,v,rfl,⟨⟨ρ'',RW.hr,hd _ _ _ _ g2,st,fun k p hp=>?_⟩,fun he=>?_⟩⟩
   ·have hk:k<h.length:=by rw [←HR.len];exact (yZ.1 hp).1
    exact Ww k p hk (h5 k p hk hp)
   ·have:=I5 he;subst this;exact st.upd.toExt fun i _ ⟨k,o,p,q1,_⟩=>by simp at q1
  ·refine ⟨h4,fun W hW=>?_⟩;obtain ⟨ρ'',FT,VS,Ww⟩:=CR P Γ N ρ' a' w' h2;have RW:=FT.shut hi (Γ.lo _ HR.gi) hW;obtain ⟨v,g1,g2⟩:=bV RW Tl;have st:BO h ρ w Ce.h ρ'' W:=(h3.trans VS).shut hW;obtain ⟨ρ3,R3,KZ,k3⟩:=BW.compact (L:=h.length) (List.range h.length) Ce List.nodup_range (fun k hk=>yc (yh.1 hk) hl) (fun k hk=>by simp [hk]) P Γ N ρ'' a' W RW;rw [hh] at KZ;have iu:=R3.hr;rw [hh] at iu;refine ⟨v,g1,v,rfl,⟨⟨ρ3,iu,?_,st.trans KZ,fun k p hp=>?_⟩,fun he=>?_⟩⟩
   ·have r0:=hn _ _ _ _ (hd _ _ _ _ g2);have r1:AO (MS N h' ρ3) W d [] v:=AO.out _ ⟨fun _ _ _ _=>rfl,fun b hb=>hb.elim (fun hx=>.inl (.inl hx)) fun hx=>(KZ.grow b hx).imp .inr id,fun _ _ hx=>by simp at hx⟩ r0;exact AO.out _ ⟨fun _ _ _ _=>rfl,fun b hb=>.inl hb,fun _ _ hx=>by simp at hx⟩ r1
   ·have hk:k<h.length:=by rw [←HR.len];exact (yZ.1 hp).1
    exact k3 k p hk (Ww k p hk (h5 k p hk hp))
   ·have:=I5 he;subst this;exact (st.trans KZ).upd.toExt fun i _ ⟨k,o,p,q1,_⟩=>by simp at q1
 cases e with
 | normal=>exact key h1.1 h1.2
 | ret=>exact key h1.1 h1.2
 | exit id=>exact absurd h1.2.1 (by simp)
 | goto t=>exact absurd h1.2.1 (by simp)
 | panic ch=>exact h1.elim
 | outgrown=>exact h1.elim
def GY (d:DV):Prop:=∀ (M M':Nat -> Prop) (w w':World) (ρ ρ':List AN) (v:Value),AO M w d ρ v -> AO M' w' d ρ' v
theorem Hf.agg {m:Nat} {f:Nat -> DV} (h: ∀ j,j<m -> Hf (f j)):Hf (.agg m f):=fun M w ρ _ ⟨cs,e,hs,hc⟩=>⟨cs,e,hs,fun j hj=>let ⟨u,h1,h2⟩:=hc j hj;⟨u,h1,h j hj M w ρ u h2⟩⟩
theorem Hf.tup {m:Nat} {f:Nat -> DV} (h: ∀ j,j<m -> Hf (f j)):Hf (.tup m f):=fun M w ρ _ ⟨cs,e,hs,hc⟩=>⟨cs,e,hs,fun j hj=>let ⟨u,h1,h2⟩:=hc j hj;⟨u,h1,h j hj M w ρ u h2⟩⟩
theorem GY.int (k:IntKind) (n:Int):GY (.int k n):=fun _ _ _ _ _ _ _ h=>h
theorem GY.bool (b:Bool):GY (.bool b):=fun _ _ _ _ _ _ _ h=>h
theorem GY.tup {m:Nat} {f:Nat -> DV} (h: ∀ j,j<m -> GY (f j)):GY (.tup m f):=fun M M' w w' ρ ρ' _ ⟨cs,e,hs,hc⟩=>⟨cs,e,hs,fun j hj=>let ⟨u,h1,h2⟩:=hc j hj;⟨u,h1,h j hj M M' w w' ρ ρ' u h2⟩⟩
theorem N4 {M:Nat -> Prop} (hM: ∀ b,M b -> b<w.heap.size/\ Γ.ng<=b) (hg:Γ.gi w):Bb P Γ M [] [] w:=
 ⟨rfl,fun k o hk=>by simp at hk,fun k o p b h1=>by simp at h1,fun k k' o o' p p' b _ h1=>by simp at h1,hM,hg⟩
theorem NC {M:Nat -> Prop} {b:Nat}:MS M [] [] b↔M b:=⟨fun h=>h.elim id fun ⟨k,o,p,h1,_⟩=>by simp at h1,.inl⟩
theorem ES.frame {f:Nat} {ds:List DV} {d:DV} (h0:ES P Γ f ds [] d [] true) (FM: ∀ x∈ds,Hf x) (h:DH):ES P Γ f ds h d h true:=by
 refine ⟨h0.1,fun N ρ w args HR Ci=>?_⟩;refine (h0.2 (MS N h ρ) [] w args (N4 (fun b hb=>HR.lt2 hb) HR.gi) ⟨Ci.1,fun i hi=>?_⟩).mono ?_
 ·have hx:=FM (ds.getD i .any) (by simp [hi]);exact AO.out _ (DR (fun b hb=>NC.1 hb) []) (hx _ _ _ _ (Ci.2 i hi))
 ·rintro e w' ⟨v,rfl,⟨⟨ρ',g1,g2,g3,g4⟩,g5⟩⟩;have hE:=g5 rfl;have hρ:ρ'= []:=zp (by rw [g1.len];rfl);subst hρ;exact ⟨v,rfl,⟨⟨ρ,HR.ext hE,Pa (AO.out _ (DR (fun b hb=>NC.2 hb) []) g2),BO.ext hE,fun _ _ h=>h⟩,g5⟩⟩
def Aa (h:DH) (d d0:DV):Prop:=∀ (P:Program) (Γ:A9) (N:Nat -> Prop) (ρ:List AN) (w:World) (v:Value),Bb P Γ N h ρ w -> AO (MS N h ρ) w d ρ v -> AO (fun _=>False) w d0 [] v
theorem Aa.nref {h:DH} {d:DV} (hn:Hf d):Aa h d d:=fun _ _ _ _ _ _ _ hr=>AO.out _ (DR (fun _ hb=>hb.elim) []) (hn _ _ _ _ hr)
theorem Aa.ints {h:DH} {k n:Nat} {l:List Int} (hk:h[k]? =some (some (.ints l))) (hn:n=l.length):Aa h (.msl k 1 0 n) (.ints l):=by
 rintro P Γ N ρ w v H ⟨p,cap,hp,e,g1,g2,_⟩;subst hn;obtain ⟨p',BJ,hr⟩:=H.obj k _ hk;have ep:p'=p:=yY (BJ.symm.trans hp);subst ep;refine ⟨_,cap,e,g1,g2,fun j hj=>⟨p'.blk,p'.off,by simp,id,?_⟩⟩;obtain ⟨u,e1,e2⟩:=Ak.cell hr hj;rw [e1,e2]
theorem Aa.bools {h:DH} {k n:Nat} {l:List Bool} (hk:h[k]? =some (some (.bools l))) (hn:n=l.length):Aa h (.msl k 1 0 n) (.bools l):=by
 rintro P Γ N ρ w v H ⟨p,cap,hp,e,g1,g2,_⟩;subst hn;obtain ⟨p',BJ,hr⟩:=H.obj k _ hk;have ep:p'=p:=yY (BJ.symm.trans hp);subst ep;refine ⟨_,cap,e,g1,g2,fun j hj=>⟨p'.blk,p'.off,by simp,id,?_⟩⟩;obtain ⟨u,e1,e2⟩:=Ak.cell hr hj;rw [e1,e2]
theorem Aa.ref {h:DH} {k m:Nat} {l:List DV} {f:Nat -> DV} (hk:h[k]? =some (some (.cells l))) (hm:m<=l.length) (hf: ∀ j,j<m -> Aa h (l.getD j .any) (f j)):Aa h (.ref k 0) (.fp m f):=by
 rintro P Γ N ρ w v H ⟨p,hp,e⟩;obtain ⟨p',BJ,hr⟩:=H.obj k _ hk;have ep:p'=p:=yY (BJ.symm.trans hp);subst ep;refine ⟨p'.blk,p'.off,e,fun j hj=>⟨id,?_⟩⟩;obtain ⟨u,e1,e2⟩:=Ak.cell hr (j:=j) (by omega);exact ⟨u,e1,hf j hj P Γ N ρ w u H e2⟩
theorem ES.snap {f:Nat} {ds DX:List DV} {d:DV} (h0:ES P Γ f DX [] d [] true) (h:DH) (hl:DX.length=ds.length) (hs: ∀ i,i<ds.length -> Aa h (ds.getD i .any) (DX.getD i .any)) (hd:GY d):ES P Γ f ds h d h true:=by
 refine ⟨h0.1,fun N ρ w args HR Ci=>?_⟩;refine (h0.2 (fun _=>False) [] w args (N4 (fun b hb=>hb.elim) HR.gi) ⟨by rw [hl];exact Ci.1,fun i hi=>?_⟩).mono ?_
 ·rw [hl] at hi;exact AO.out _ (DR (fun b hb=>NC.1 hb) []) (hs i hi P Γ N ρ w _ HR (Ci.2 i hi))
 ·rintro e w' ⟨v,rfl,⟨⟨ρ',g1,g2,g3,g4⟩,g5⟩⟩;have hE:=g5 rfl;exact ⟨v,rfl,⟨⟨ρ,HR.ext hE,hd _ _ _ _ _ _ _ g2,BO.ext hE,fun _ _ h=>h⟩,g5⟩⟩
end
end Go.Proofs.YtgkhhfnhacibcaaGreatDoor
namespace Go.Proofs.YtgkhhfnhacibcaaGreatDoor
open Go.RowKit
section
variable {F:Fence} {n:Nat} {P:Program} {ops:Array Oper} {Q:Exit -> Act -> World -> Prop}
def G9 (F:Fence) (n:Nat) (P:Program) (ops:Array Oper) (Q:Exit -> Act -> World -> Prop) (R:Nat -> World -> World -> Prop):Nat -> Array Bool -> Act -> World -> Prop
 | 0,AX,a,w=>(∀ j,j<ops.size -> AX.getD j true=true)/\ Q .normal a w
 | m+1,AX,a,w=>Region.ready .any ops AX≠[]/\ ∀ i∈Region.ready .any ops AX,wpOpIn F n P ops (NP Q) i (fun a' w'=>R i w w'/\ G9 F n P ops Q R m (AX.setIfInBounds i true) a' w') a w
theorem ZM {R R':Nat -> World -> World -> Prop} (hR: ∀ i w w',R' i w w' -> R i w w'): ∀ (m:Nat) (AX:Array Bool) (a:Act) (w:World),G9 F n P ops Q R' m AX a w -> G9 F n P ops Q R m AX a w
 | 0,_,_,_,h=>h
 | m+1,_,_,_,h=>⟨h.1,fun i hi=>zAo (fun _ _ h'=>⟨hR _ _ _ h'.1,ZM hR m _ _ _ h'.2⟩) (h.2 i hi)⟩
theorem nZ {AX:Array Bool} (h: ∀ j,j<ops.size -> AX.getD j true=true):Region.ready .any ops AX= []:=by
 cases hr:Region.ready .any ops AX with
 | nil=>rfl
 | cons i l=>
  have hi:i∈Region.ready .any ops AX:=by rw [hr];simp
  obtain ⟨h1,oi,h2,_⟩:=zAu.1 hi;rw [h i (yR.1 h2).1] at h1;cases h1
theorem ZR {R:Nat -> World -> World -> Prop}: ∀ (m:Nat) (AX:Array Bool) (a:Act) (w:World),G9 F n P ops Q R m AX a w -> wpAnyIn F n P .any ops Q m AX a w
 | 0,_,_,_,h=>⟨nZ h.1,h.2⟩
 | m+1,_,_,_,h=>⟨fun h0=>absurd h0 h.1,fun i hi=>zAo (fun a' w' h'=>ZR m _ a' w' h'.2) (ZO (h.2 i hi))⟩
theorem i4 (hF: ∀ f,F.fn f) (BA:Dq ops=true) {R:Nat -> World -> World -> Prop} {T:World -> Prop} {i:Nat} {oi:Oper} {v:Value} (hi:ops[i]? =some oi) (QR: ∀ (j:Nat) (o:Oper) cs b,ops[j]? =some o -> o.op≠.select cs b) (fK: ∀ w,R i w w):
 ∀ (m:Nat) (AX:Array Bool) (a:Act) (w:World),Fp ops AX ->
  (∀ j oj,ops[j]? =some oj -> j≠i -> AX.getD j true=false -> (∀ e∈oj.after,Region.binds .any e=true -> e.on≠i) -> oi.apart ops oj=true) ->
  (∀ j,j<ops.size -> j≠i -> AX.getD j true=false -> Fr ops ops.size j i=false -> ∀ w w',T w -> R j w w' -> T w') ->
  i∈Region.ready .any ops AX -> YieldsIf P ops T oi v a -> T w ->
  G9 F n P ops Q R m (AX.setIfInBounds i true) (a.put oi.dst v) w -> G9 F n P ops Q R (m+1) AX a w:=by
 intro m
 induction m with
 | zero=>
  intro AX a w Bo _ _ hr hy hS H;have Mg:=(zAu.1 hr).1;refine ⟨fun h=>(by rw [h] at hr;cases hr),fun j hj=>?_⟩
  by_cases EO:j=i
  ·subst EO;exact Rb hF (H2 BA hi) hi hy hS ⟨fK w,H⟩
  ·exfalso
   obtain ⟨I1,oj,Fi,HT⟩:=zAu.1 hj;have OC:=(yR.1 Fi).1;have:=H.1 j OC;rw [getD_set_ne true (zAw EO),I1] at this;cases this
 | succ m ih=>
  intro AX a w Bo Qb hT hr hy hS H;have Mg:=(zAu.1 hr).1;refine ⟨fun h=>(by rw [h] at hr;cases hr),fun j hj=>?_⟩
  by_cases EO:j=i
  ·subst EO;exact Rb hF (H2 BA hi) hi hy hS ⟨fK w,H⟩
  ·have h1:=H.2 j (ready_mono hj EO);obtain ⟨I1,oj,Fi,HT⟩:=zAu.1 hj;have OC:=(yR.1 Fi).1
   have tw:Fr ops ops.size j i=false:=by
    cases hx:Fr ops ops.size j i with
    | false=>rfl
    | true=>
     have:=VB Bo _ j i oj Fi HT hx;rw [UA Mg] at this;cases this
   have Xf: ∀ e∈oj.after,Region.binds .any e=true -> e.on≠i:=fun e he hb Xs=>by
    have h1:=HT e he hb;rw [Xs,UA Mg] at h1;cases h1
   have h2:=ZN hF (H2 BA Fi) Fi (Qb j oj Fi EO I1 Xf) (fun cs b=>QR i oi cs b hi) (fun cs b=>QR j oj cs b Fi) (fun c a w h=>NP.put c a _ _ w h) hy h1
   have un: ∀ {k:Nat},(AX.setIfInBounds j true).getD k true=false -> AX.getD k true=false:=fun {k} H8=>by
    by_cases Qa:j=k
    ·subst Qa;exact I1
    ·rw [getD_set_ne true Qa] at H8;exact H8
   refine zAo (fun a' w' h3=>⟨h3.2.1,ih (AX.setIfInBounds j true) a' w' (Bo.set hj) (fun k ok hk QZ H8 Jz=>Qb k ok hk QZ (un H8) Jz) (fun k Dv QZ H8 uK=>hT k Dv QZ (un H8) uK) (ready_mono hr (zAw EO)) h3.1 (hT j OC EO I1 tw w w' hS h3.2.1) ?_⟩) h2;rw [Array.setIfInBounds_comm _ _ EO];exact h3.2.2
theorem i7 {id:Nat} {a:Act} {w:World} {R:Nat -> World -> World -> Prop} (hm:P.follows .mixedOrders=true) (h:G9 F n P ops Q R ops.size (Array.replicate ops.size false) a w.drew):(Code.region id ops true).wpIn F n P Q a w:=
 wpIn_region_any hm (ZR _ _ _ _ h)
theorem xB:Fp ops (Array.replicate ops.size false):=fun j oj _ hl=>by
 exfalso
 rcases zt j ops.size with h | h
 ·simp [h] at hl
 ·simp [h] at hl
def Pj (ops:Array Oper) (i:Nat):Bool:=match ops[i]? with
 | some o=>Pi o.op
 | none=>false
def RZ (ops:Array Oper) (early:Nat -> Bool) (Z:Nat -> Nat -> Prop) (j:Nat) (w w':World):Prop:=(Pj ops j=true -> w'=w)/\ (early j=true -> AQ (Z j) w w')
def SZ (ops:Array Oper) (early:Nat -> Bool) (i:Nat) (AX:Array Bool):Bool:=
 (Region.ready .any ops AX).contains i&&Region.free .any ops AX i&&Pj ops i&&
  ((List.range ops.size).all fun j=>AX.getD j true||j==i||Pj ops j||early j||Fr ops ops.size j i)
theorem bZ (hF: ∀ f,F.fn f) (BA:Dq ops=true) (hs:Region.noSelect ops=true) {early:Nat -> Bool} {Z:Nat -> Nat -> Prop} {Zi:Nat -> Prop} {i m:Nat} {AX:Array Bool} {a:Act} {w:World} {oi:Oper} {v:Value} (hi:ops[i]? =some oi) (Bo:Fp ops AX) (CI:SZ ops early i AX=true) (hZ: ∀ j,Fr ops ops.size j i=false -> ∀ b,Z j b -> Zi b)
 (hy:YieldsIf P ops (AQ Zi w) oi v a) (h:G9 F n P ops Q (RZ ops early Z) m (AX.setIfInBounds i true) (a.put oi.dst v) w):G9 F n P ops Q (RZ ops early Z) (m+1) AX a w:=by
 simp only [SZ,yT,ya,yh,yk,yo] at CI;obtain ⟨⟨⟨h1,h2⟩,h3⟩,h4⟩:=CI;refine i4 hF BA hi (Region.noSelect_spec hs) (fun w=>⟨fun _=>rfl,fun _=>AQ.refl _ _⟩) m AX a w Bo (Region.free_spec hi h2) (fun j hj EO H8 hw w1 w2 hT hR=>?_) (by simpa using h1) hy (AQ.refl _ _) h;rcases h4 j hj with (((h | h) | h) | h) | h
 ·rw [H8] at h;cases h
 ·exact absurd h EO
 ·rw [hR.1 h];exact hT
 ·exact hT.trans ((hR.2 h).mono fun b _ hb=>hZ j hw b hb)
 ·rw [hw] at h;cases h
theorem Yn {AX:Array Bool} {i:Nat} (Bo:Fp ops AX) (h:(Region.ready .any ops AX).contains i=true):Fp ops (AX.setIfInBounds i true):=Bo.set (by simpa using h)
end
end Go.Proofs.YtgkhhfnhacibcaaGreatDoor
namespace Go.Proofs.YtgkhhfnhacibcaaGreatDoor
abbrev zAQ:=@List.mem_filter
end Go.Proofs.YtgkhhfnhacibcaaGreatDoor
namespace Go.Proofs.YtgkhhfnhacibcaaGreatDoor
open Go.RowKit
inductive ST where
 | fin (π live:List Nat)
 | rd (i:Nat) (t:ST)
 | ef (i:Nat) (t G3:ST)
 | no
def RQ:ST -> List Nat
 | .ef i _ G3=>i::RQ G3
 | _=>[]
def Dm (ops:Array Oper) (early:List Nat):Bool -> Nat -> ST -> Array Bool -> Bool
 | false,0,.fin _ _,L=>(List.range ops.size).all fun j=>L.getD j true
 | false,m+1,.rd i t,L=>SZ ops (fun j=>early.contains j) i L&&Dm ops early false m t (L.setIfInBounds i true)
 | b,m+1,.ef i t G3,L=>(b||Region.ready .any ops L==RQ (.ef i .no G3))&&!Pj ops i&&Dm ops early false m t (L.setIfInBounds i true)&&Dm ops early true (m+1) G3 L
 | true,_,.no,_=>true
 | _,_,_,_=>false
def HD (p:Nat -> Bool) (h:DH):DH:=(List.range h.length).map fun i=>if p i then h.getD i none else none
def qg (xs:List Nat) (h:DH):DH:=HD (fun i=>!xs.contains i) h
def Uy (xs:List Nat) (h:DH):Bool:=xs.all fun k=>decide (h.length<=k)||(h.getD k none).isSome
def KY (S:St) (o:Oper):Option Nat:=match o.op with
 | .store _ x _=>match Ac S.fr x with
  | .ref k _=>some k
  | .mp k _ _ _=>some k
  | _=>none
 | _=>none
def aZ (σ:List Nat) (L n:Nat):Bool:=decide σ.Nodup&&σ.all (fun k=>decide (k<n))&&(List.range L).all fun k=>decide (σ[k]? =some k)
def Ou (xs:List (Nat×Nat)) (nw:List Nat):List Nat:=xs.map (·.2)++nw
def IU (xs:List (Nat×Nat)) (nw:List Nat) (j:Nat):List Nat:=(xs.filter fun q=>q.1==j).map (·.2)++nw
def JK (ops:Array Oper) (xs:List (Nat×Nat)) (nw:List Nat) (i:Nat):List Nat:=(xs.filter fun q=>!Fr ops ops.size q.1 i).map (·.2)++nw
def gI (early:List Nat) (xs:List (Nat×Nat)) (nw:List Nat) (S S1:St) (i:Nat) (o:Oper) (ext:Bool):Bool:=
 Uy (Ou xs nw) S.h&&Uy (Ou xs nw) S1.h&&((Ou xs nw).all (fun k=>decide (k<S.h.length))||QD S.h S1.h)&&(!(early.contains i)||ext||(match KY S o with | some k=>(IU xs nw i).contains k | none=>false))
def R6 (π:List Nat) (L0:Nat):List Nat:=List.range L0++π.map (· +L0)
def KU (P:Program) (Γ:A9) (ops:Array Oper) (early:List Nat) (xs:List (Nat×Nat)) (nw:List Nat) (L0:Nat) (S':St):ST -> St -> Bw -> Option (List Prop×Bw)
 | .no,_,As=>some ([],As)
 | .fin π live,S,As=>if aZ (R6 π L0) L0 S.h.length then some ([FN (R6 π L0) ⟨forget live S.fr,S.h⟩=S'],As) else none
 | .rd i t,S,As=>match ops[i]? with
  | none=>none
  | some o=>if Uy (JK ops xs nw i) S.h then match Pc P ops ⟨S.fr,qg (JK ops xs nw i) S.h⟩ As.co o with
   | none=>none
   | some (S1,vs,C4)=>match KU P Γ ops early xs nw L0 S' t ⟨S1.fr,S.h⟩ ⟨As.calls,C4,As.fz,As.tg⟩ with
    | none=>none
    | some (BZ,CL)=>some (vs++BZ,CL)
   else none
 | .ef i t G3,S,As=>match ops[i]? with
  | none=>none
  | some o=>match M8 P Γ ops S As o with
   | none=>none
   | some (S1,vs,ext,L7)=>if gI early xs nw S S1 i o ext then
    match KU P Γ ops early xs nw L0 S' t S1 L7 with
    | none=>none
    | some (Cf,Gj)=>match KU P Γ ops early xs nw L0 S' G3 S Gj with
     | none=>none
     | some (Eu,Jk)=>some (vs++(Cf++Eu),Jk)
    else none
def CF (ops:Array Oper) (early:List Nat) (t:ST):Prop:=(Dm ops early false ops.size t (Array.replicate ops.size false)&&Region.noSelect ops&&Dq ops)=true
def VI (P:Program) (Γ:A9) (ops:Array Oper) (early:List Nat) (t:ST) (S:St) (As:Bw):Option (St×List Prop×Bw):=match As.tg with
 | []=>none
 | (ks,S')::rest=>match KU P Γ ops early ks (List.range' S.h.length ops.size) S.h.length S' t S ⟨As.calls,As.co,As.fz,rest⟩ with
  | none=>none
  | some (vs,CL)=>some (S',vs,CL)
theorem ON {p:Nat -> Bool} {h:DH} {i:Nat} {o:DO} (hi:(HD p h)[i]? =some (some o)):h[i]? =some (some o)/\ p i=true:=by
 unfold HD at hi;rw [y9] at hi;cases hr:(List.range h.length)[i]? with
 | none=>rw [hr] at hi;cases hi
 | some j=>
  have hj:i<h.length/\ i=j:=by
   have:=yZ.1 hr;obtain ⟨h1,h2⟩:=this;simp at h1 h2;exact ⟨h1,h2⟩
  rw [hr] at hi;obtain ⟨h1,rfl⟩:=hj;have hi:(if p i then h.getD i none else none)=some o:=yY hi;split at hi
  ·exact ⟨by rw [u8,yQ h1] at hi;rw [yQ h1];exact congrArg some hi,by assumption⟩
  ·cases hi
theorem kV {p:Nat -> Bool} {h:DH}:(HD p h).length=h.length:=by simp [HD]
theorem fX {p:Nat -> Bool} {h:DH} {k:Nat} (hp:p k=true) (hk:k<h.length):(HD p h)[k]? =h[k]? :=by
 unfold HD;rw [y9,zA1 hk];simp [hp,u8,hk]
section
variable {P:Program} {Γ:A9} {N:Nat -> Prop} {S:St} {ρ:List AN} {a:Act} {w:World}
theorem Ad.sel (R:Ad P Γ N S ρ a w) (p:Nat -> Bool):Ad P Γ (fun b=>N b∨∃ k o q,p k=false/\ S.h[k]? =some (some o)/\ ρ[k]? =some q/\ q.foot b) ⟨S.fr,HD p S.h⟩ ρ a w:=by
 have hM: ∀ b,MS (fun b=>N b∨∃ k o q,p k=false/\ S.h[k]? =some (some o)/\ ρ[k]? =some q/\ q.foot b) (HD p S.h) ρ b -> MS N S.h ρ b:=by
  rintro b ((h | ⟨k,o,q,h1,h2,h3,h4⟩) | ⟨k,o,q,h1,h2,h3⟩)
  ·exact .inl h
  ·exact .inr ⟨k,o,q,h2,h3,h4⟩
  ·exact .inr ⟨k,o,q,(ON h1).1,h2,h3⟩
 refine ⟨⟨by rw [kV];exact R.hr.len,fun i o hi=>?_,fun i o q b g1 g2 g3=>?_,fun i i' o1 o2 p1 p2 b Ap g1 g2 g3 g4 g5 g6=>R.hr.dis i i' o1 o2 p1 p2 b Ap (ON g1).1 (ON g2).1 g3 g4 g5 g6,?_,R.hr.gi⟩,R.fr.out (DR hM ρ)⟩
 ·obtain ⟨q,hq,hr⟩:=R.hr.obj i o (ON hi).1;exact ⟨q,hq,hr.out (DR hM ρ) (S:=fun _=>False) (AQ.refl _ _) (fun _ h=>h.elim) fun _ _ _ h=>h⟩
 ·obtain ⟨hi,sQ⟩:=ON g1;obtain ⟨c1,c2,c3⟩:=R.hr.cel i o q b hi g2 g3;refine ⟨c1,?_,c3⟩;rintro (h | ⟨k,o',q',h1,h2,h3,h4⟩)
  ·exact c2 h
  ·exact R.hr.dis i k o o' q q' b (fun e=>by subst e;rw [sQ] at h1;cases h1) hi h2 g2 h3 g3 h4
 ·rintro b (h | ⟨k,o',q',h1,h2,h3,h4⟩)
  ·exact R.hr.nlt b h
  ·obtain ⟨c1,_,c,t,z,c3⟩:=R.hr.cel k o' q' b h2 h3 h4;exact ⟨(yR.1 c3).1,c1⟩
theorem Ad.unsel {p:Nat -> Bool} {fr:List DV} (R0:Bb P Γ N S.h ρ w) (R:B8 (MS (fun b=>N b∨∃ k o q,p k=false/\ S.h[k]? =some (some o)/\ ρ[k]? =some q/\ q.foot b) (HD p S.h) ρ) w ρ fr a.tmps):Ad P Γ N ⟨fr,S.h⟩ ρ a w:=by
 refine ⟨R0,R.out (DR (fun b hb=>?_) ρ)⟩;rcases hb with h | ⟨k,o,q,h1,h2,h3⟩
 ·exact .inl (.inl h)
 ·cases hp:p k with
  | false=>exact .inl (.inr ⟨k,o,q,hp,h1,h2,h3⟩)
  | true=>
   refine .inr ⟨k,o,q,?_,h2,h3⟩;rw [fX hp (yZ.1 h1).1];exact h1
def Zs (xs:List Nat) (ρ:List AN) (w:World) (b:Nat):Prop:=(∃ k q,k∈xs/\ ρ[k]? =some q/\ q.foot b)∨w.heap.size<=b
theorem qm {xs:List Nat} (R:Bb P Γ N S.h ρ w) (Mn:Uy xs S.h=true) {W:World} (hu:AQ (Zs xs ρ w) w W):Keep (fun b=>N b∨∃ k o q,(!xs.contains k)=false/\ S.h[k]? =some (some o)/\ ρ[k]? =some q/\ q.foot b) w W:=by
 intro b o u hb hc;have AU:b<w.heap.size:=zu w ⟨b,o,none⟩ hc;refine (ga (hu.block b AU ?_)).trans hc;rintro (⟨k,q,h1,h2,h3⟩ | h)
 ·have hk:k<S.h.length:=by rw [←R.len];exact (yZ.1 h2).1
  have hx:=ya.1 Mn k h1;simp only [yk,y8] at hx;rcases hx with hx | hx
  ·omega
  ·cases hg:S.h.getD k none with
   | none=>rw [hg] at hx;cases hx
   | some ob=>exact hb (.inr ⟨k,ob,q,by simp [h1],getD_some hg,h2,h3⟩)
 ·omega
theorem OV {ρ':Operand -> Value} {o:Oper} {t:TypeId} {x y:Operand} (ho:o.op= .store t x y) {nx:Next} {w w':World} (h:(execOp ρ' o).run P w= .ok nx w'):nx= .skip:=by
 unfold execOp at h;rw [ho] at h;have h:(Instr.storeAt t (ρ' x) (ρ' y)>>=fun _=>(pure .skip:Sem Next)).run P w= .ok nx w':=h;rw [yj] at h;cases hs:(Instr.storeAt t (ρ' x) (ρ' y)).run P w with
 | ok v w1=>rw [hs] at h;simp only [Result.andThen] at h;cases h;rfl
 | halt x w1=>rw [hs] at h;simp only [Result.andThen] at h;cases h
theorem BT.store {ρ':Operand -> Value} {o:Oper} {t:TypeId} {x y:Operand} (ho:o.op= .store t x y) {w:World} {G G':Value -> World -> Prop} (h:BT P (execOp ρ' o) w G) (h':BT P (execOp ρ' o) w G'):BT P (execOp ρ' o) w (fun v W=>G v W/\ G' v W):=by
 rcases h with ⟨v,w1,h1,_⟩ | ⟨w1,h1,h2⟩ | ⟨f,ag,w1,h1,_⟩
 ·cases OV ho h1
 ·rcases h' with ⟨v,w2,g1,_⟩ | ⟨w2,g1,g2⟩ | ⟨f,ag,w2,g1,_⟩
  ·cases OV ho g1
  ·rw [h1] at g1;cases g1;exact .inr (.inl ⟨w1,h1,h2,g2⟩)
  ·cases OV ho g1
 ·cases OV ho h1
theorem j5 {t:TypeId} {x d:DV} {k:Nat} {h':DH} {vc:Prop} (hx:(∃ j,x= .ref k j)∨∃ m i j,x= .mp k m i j) (h:Li P S t x d=some (h',vc)):k<S.h.length/\ ∃ h2,Li P ⟨S.fr,HD (fun i=>i==k) S.h⟩ t x d=some (h2,vc):=by
 have key: ∀ {o:DO},S.h[k]? =some (some o) -> k<S.h.length/\ (HD (fun i=>i==k) S.h)[k]? =some (some o):=fun {o} ho=>by
  have hk:=(yZ.1 ho).1;exact ⟨hk,by rw [fX (by simp) hk];exact ho⟩
 unfold Li at h ⊢;rcases hx with ⟨j,rfl⟩ | ⟨m,i,j,rfl⟩
 ·simp only at h ⊢;split at h
  ·rename_i l hl;obtain ⟨h1,h2⟩:=key hl;refine ⟨h1,?_⟩;simp only [h2]
   repeat' (split at h)
   all_goals first | (cases h;done) | skip
   cases h;rename_i q1 q2 q3;simp only [q1,q2,q3,zo];exact ⟨_,rfl⟩
  ·cases h
 ·simp only at h ⊢;split at h
  ·rename_i A5;split at h
   ·rename_i l hl;obtain ⟨h1,h2⟩:=key hl;refine ⟨h1,?_⟩;simp only [h2,A5,zo]
    repeat' (split at h)
    all_goals first | (cases h;done) | skip
    cases h;rename_i q1;simp only [q1,zo];exact ⟨_,rfl⟩
   ·rename_i l hl;obtain ⟨h1,h2⟩:=key hl;refine ⟨h1,?_⟩;simp only [h2,A5,zo]
    repeat' (split at h)
    all_goals first | (cases h;done) | skip
    cases h;rename_i q1;simp only [q1,zo];exact ⟨_,rfl⟩
   ·rename_i m' n f hl;obtain ⟨h1,h2⟩:=key hl;refine ⟨h1,?_⟩;simp only [h2,A5,zo]
    repeat' (split at h)
    all_goals first | (cases h;done) | skip
    cases h;rename_i q1;simp only [q1,zo];exact ⟨_,rfl⟩
   ·cases h
  ·cases h
theorem VP {o:Oper} {k:Nat} (h:KY S o=some k): ∃ t x y,o.op= .store t x y/\ ((∃ j,Ac S.fr x= .ref k j)∨∃ m i j,Ac S.fr x= .mp k m i j):=by
 unfold KY at h;split at h
 ·rename_i t x y ho;refine ⟨t,x,y,ho,?_⟩;split at h
  ·rename_i j e;cases h;exact .inl ⟨j,e⟩
  ·rename_i m i j e;cases h;exact .inr ⟨m,i,j,e⟩
  ·cases h
 ·cases h
theorem yG {calls:List (DV×DH×Bool)} {o:Oper} {t:TypeId} {x y:Operand} (ho:o.op= .store t x y) {d:DV} {h':DH} {vs:List Prop} {ext:Bool} {RC:List (DV×DH×Bool)} (h:Ok P Γ S calls o.op=some (d,h',vs,ext,RC)): ∃ vc,Li P S t (Ac S.fr x) (Ac S.fr y)=some (h',vc)/\ vs= [vc]:=by
 rw [ho] at h;simp only [Ok] at h;split at h
 ·rename_i h1 vc hs;cases h;exact ⟨vc,hs,rfl⟩
 ·cases h
theorem yH (R:Ad P Γ N S ρ a w) {calls:List (DV×DH×Bool)} {o:Oper} {d:DV} {h':DH} {vs:List Prop} {ext:Bool} {RC:List (DV×DH×Bool)} (h:Ok P Γ S calls o.op=some (d,h',vs,ext,RC)) (hv:Bl vs):
 BT P (execOp a.eval o) w (fun v w'=>C6 P Γ N S.h ρ w ext d h' v w'/\ ∀ k,KY S o=some k -> AQ (fun b=>∃ q,ρ[k]? =some q/\ q.foot b) w w'):=by
 cases D9:KY S o with
 | none=>
  have D:=ZG R h hv;rcases D with ⟨v,w1,h1,h2⟩ | ⟨w1,h1,h2⟩ | ⟨f,ag,w1,h1,h2⟩
  ·exact .inl ⟨v,w1,h1,h2,fun k hk=>by cases hk⟩
  ·exact .inr (.inl ⟨w1,h1,h2,fun k hk=>by cases hk⟩)
  ·exact .inr (.inr ⟨f,ag,w1,h1,h2.mono fun e CC ⟨v,e1,e2⟩=>⟨v,e1,e2,fun k hk=>by cases hk⟩⟩)
 | some k=>
  obtain ⟨t,x,y,ho,hx⟩:=VP D9;have D:=ZG R h hv;obtain ⟨vc,hs,rfl⟩:=yG ho h;obtain ⟨_,h2,Ju⟩:=j5 hx hs;have D2:=aN (Ad.sel R (fun i=>i==k)) (tx:=x) (x:=y) Ju hv.1 o ho;have D3:=BT.store ho D D2;rcases D3 with ⟨v,w1,h1,g1,g2⟩ | ⟨w1,h1,g1,g2⟩ | ⟨f,ag,w1,h1,_⟩
  ·cases OV ho h1
  ·refine .inr (.inl ⟨w1,h1,g1,fun k' Co=>?_⟩);cases Co;obtain ⟨ρ2,_,_,st,_⟩:=g2.ex;refine st.upd.mono fun b _ hb=>?_
   obtain ⟨i,o',q,q1,q2,q3⟩:=hb;have:=(ON q1).2;have e:i=k:=by simpa using this
   subst e;exact ⟨q,q2,q3⟩
  ·cases OV ho h1
theorem xj {F:Fence} (hF:Dl F P) (R:Ad P Γ N S ρ a w) {ops:Array Oper} {As:Bw} {o:Oper} (hd: ∀ c,o.op≠.defer c) {S':St} {vs:List Prop} {ext:Bool} {CL:Bw} (h:M8 P Γ ops S As o=some (S',vs,ext,CL)) (hv:Bl vs)
 {K:Act -> World -> Prop} {Q:Exit -> Act -> World -> Prop} (hK: ∀ ρ' a' w',Ad P Γ N S' ρ' a' w' -> Cr S.h ρ w S'.h ρ' w' -> a'.defers=a.defers -> (ext=true -> Au w w') -> (∀ k,KY S o=some k -> AQ (fun b=>∃ q,ρ[k]? =some q/\ q.foot b) w w') -> K a' w'):
 if Region.wanted o (yielded ops a.tmps) then o.wpIn F 0 P a w K Q else (∀ f,o.about P w a.eval=some f -> F.fn f)/\ K (a.put o.dst undef) w:=by
 have C1: ∀ v,(a.put o.dst v).defers=a.defers:=fun v=>by cases ho:o.dst <;> simp [Act.put]
 unfold M8 at h;split at h
 ·cases h
 ·rename_i hw;cases h;rw [yb (by rw [JQ R hw];exact zAN)];exact ⟨fun f _=>hF.fn f,hK ρ _ _ (Ho R _ Rk) (Cr.refl _ _ _) (C1 _) (fun _=>Au.refl w) fun _ _=>AQ.refl _ _⟩
 ·rename_i hw;rw [yP (JQ R hw)];split at h
  ·rename_i S1 Cf vP hM;cases h;refine KA hF hd (az R hM hv) fun v w' ⟨⟨ρ',g1,g2⟩,D9⟩=>hK ρ' _ _ g1 g2 (C1 v) (fun e=>by cases e) fun k' Co=>?_
   obtain ⟨t0,x0,y0,Jv,_⟩:=VP Co;rcases D9 with D9 | ⟨k,i,p,t,x,y,q1,q2,q3,q4⟩
   ·exact absurd Jv (D9 t0 x0 y0)
   have e:k'=k:=by
    unfold KY at Co;rw [q1] at Co;simp only [q2] at Co;exact (yY Co).symm
   subst e;exact q4.mono fun b _ hb=>⟨p,q3,hb⟩
  split at h
  ·rename_i S1 Cf hM;cases h;refine KA hF hd (aM R hM hv) fun v w' ⟨⟨ρ',g1,g2⟩,D9⟩=>hK ρ' _ _ g1 g2 (C1 v) (fun e=>by cases e) fun k' Co=>?_
   obtain ⟨t0,x0,y0,Jv,_⟩:=VP Co;rcases D9 with D9 | ⟨k,i,p,t,x,y,q1,q2,q3,q4⟩
   ·exact absurd Jv (D9 t0 x0 y0)
   have e:k'=k:=by
    unfold KY at Co;rw [q1] at Co;simp only [q2] at Co;exact (yY Co).symm
   subst e;exact q4.mono fun b _ hb=>⟨p,q3,hb⟩
  split at h
  ·cases h
  ·rename_i d h1 Cf ext1 calls X6;split at h;rename_i d' BZ C4 Mk;split at h
   ·cases h
   ·rename_i S2 NE JB F7;cases h;obtain ⟨B3,QP⟩:=Cl.1 hv;obtain ⟨CD,H7⟩:=Cl.1 QP;refine KA hF hd (yH R X6 B3) fun v w' G=>?_
    obtain ⟨ρ',g1,g2⟩:=Ms R o.dst G.1 (d':=d') fun M ρ' hr=>Uk Mk CD hr
    obtain ⟨g3,g4⟩:=UD _ F7 H7 P Γ N ρ' _ _ g1;exact hK ρ' _ _ g3 (g2.trans ⟨g4,fun _ _ h=>h⟩) (C1 v) G.1.ext G.2
theorem jS {F:Fence} (hF:Dl F P) {ops:Array Oper} (BA:Dq ops=true) (hs:Region.noSelect ops=true) {early:List Nat} {xs:List (Nat×Nat)} {nw:List Nat} {L0:Nat} {S':St} {Q:Exit -> Act -> World -> Prop}:
 ∀ (t:ST) (m:Nat) (L:Array Bool) {S:St} {ρ:List AN} {a:Act} {w:World} {vs:List Prop} {As CL:Bw},Fp ops L -> Ad P Γ N S ρ a w -> KU P Γ ops early xs nw L0 S' t S As=some (vs,CL) -> Bl vs ->
 (∀ ρ' a' w',Ad P Γ N S' ρ' a' w' -> BO S.h ρ w S'.h ρ' w' -> (∀ k p,k<L0 -> ρ[k]? =some p -> ρ'[k]? =some p) -> a'.defers=a.defers -> Q .normal a' w') ->
 (Dm ops early false m t L=true -> G9 F 0 P ops Q (RZ ops (fun j=>early.contains j) (fun j=>Zs (IU xs nw j) ρ w)) m L a w)/\
 (Dm ops early true m t L=true -> ∀ i∈RQ t,i∈Region.ready .any ops L -> ∃ m',m=m'+1/\ wpOpIn F 0 P ops (NP Q) i (fun a' w'=>RZ ops (fun j=>early.contains j) (fun j=>Zs (IU xs nw j) ρ w) i w w'/\ G9 F 0 P ops Q (RZ ops (fun j=>early.contains j) (fun j=>Zs (IU xs nw j) ρ w)) m' (L.setIfInBounds i true) a' w') a w):=by
 intro t
 induction t with
 | no=>
  intro m L S ρ a w vs As WO Bo R hV hv hQ;exact ⟨fun h=>by cases m <;> simp [Dm] at h,fun _ i hi=>by cases hi⟩
 | fin π live=>
  intro m L S ρ a w vs As WO Bo R hV hv hQ;refine ⟨fun h=>?_,fun h=>by cases m <;> simp [Dm] at h⟩;cases m with
  | succ m=>simp [Dm] at h
  | zero=>
   simp only [Dm,ya,yh] at h;refine ⟨h,?_⟩;simp only [KU] at hV;split at hV
   ·rename_i hσ;cases hV;simp only [aZ,yT,y8,ya,yh] at hσ;obtain ⟨ρ0,R0,j6,k0⟩:=BW.forget (L:=L0) live S.fr S.h P Γ N ρ a w R;obtain ⟨ρ',R',DP,k'⟩:=BW.compact (L:=L0) (R6 π L0) ⟨forget live S.fr,S.h⟩ hσ.1.1 (fun k hk=>hσ.1.2 k hk) (fun k hk=>hσ.2 k hk) P Γ N ρ0 a w R0;have st:=j6.trans DP;have e:FN (R6 π L0) ⟨forget live S.fr,S.h⟩=S':=hv.1;rw [e] at R' st DP;exact hQ ρ' a w R' st (fun k p hk hp=>k' k p hk (k0 k p hk hp)) rfl
   ·cases hV
 | rd i t ih=>
  intro m L S ρ a w vs As WO Bo R hV hv hQ;refine ⟨fun h=>?_,fun h=>by cases m <;> simp [Dm] at h⟩;cases m with
  | zero=>simp [Dm] at h
  | succ m=>
   simp only [Dm,yT] at h;simp only [KU] at hV;split at hV
   ·cases hV
   ·rename_i o ho;split at hV
    ·rename_i Mn;split at hV
     ·cases hV
     ·rename_i S1 Cf RB hp;split at hV
      ·cases hV
      ·rename_i Eu Gj h2;cases hV;obtain ⟨B3,CD⟩:=Cl.1 hv;have RK:=Ad.sel R (fun k=>!(JK ops xs nw i).contains k);obtain ⟨e1,D9⟩:=Se RK hp B3;have C1: ∀ v,(a.put o.dst v).defers=a.defers:=fun v=>by cases ho:o.dst <;> simp [Act.put]
       have N5:(Region.ready .any ops L).contains i=true:=by
        have:=h.1;simp only [SZ,yT] at this;exact this.1.1.1
       have back: ∀ v,B8 (MS (fun b=>N b∨∃ k o q,(!(JK ops xs nw i).contains k)=false/\ S.h[k]? =some (some o)/\ ρ[k]? =some q/\ q.foot b) S1.h ρ) w ρ S1.fr (a.put o.dst v).tmps -> Ad P Γ N ⟨S1.fr,S.h⟩ ρ (a.put o.dst v) w:=fun v hr=>by
        rw [e1] at hr;exact Ad.unsel (p:=fun k=>!(JK ops xs nw i).contains k) R.hr hr
       have hZ: ∀ j,Fr ops ops.size j i=false -> ∀ b,Zs (IU xs nw j) ρ w b -> Zs (JK ops xs nw i) ρ w b:=by
        rintro j hj b (⟨k,q,k1,k2,k3⟩ | hb)
        ·refine .inl ⟨k,q,?_,k2,k3⟩;unfold IU at k1;unfold JK;rcases zP.1 k1 with k1 | k1
         ·obtain ⟨p,p1,p2⟩:=zh.1 k1;obtain ⟨p3,p4⟩:=zAQ.1 p1;have:p.1=j:=by simpa using p4
          exact zP.2 (.inl (zh.2 ⟨p,zAQ.2 ⟨p3,by rw [this,hj];rfl⟩,p2⟩))
         ·exact zP.2 (.inr k1)
        ·exact .inr hb
       rcases D9 with ⟨hw,v,g1,g2⟩ | ⟨hw,g2⟩
       ·refine bZ (Zi:=Zs (JK ops xs nw i) ρ w) hF.fn BA hs ho Bo h.1 hZ (.inl ⟨hw,fun W hu=>g1 W (qm R.hr Mn hu)⟩) ?_;exact (ih m _ (Yn Bo N5) (back v g2.fr) h2 CD fun ρ' a' w' q1 q2 q3 q4=>hQ ρ' a' w' q1 q2 q3 (q4.trans (C1 v))).1 h.2
       ·refine bZ (Zi:=Zs (JK ops xs nw i) ρ w) hF.fn BA hs (v:=undef) ho Bo h.1 hZ (.inr ⟨hw,rfl⟩) ?_;exact (ih m _ (Yn Bo N5) (back undef g2.fr) h2 CD fun ρ' a' w' q1 q2 q3 q4=>hQ ρ' a' w' q1 q2 q3 (q4.trans (C1 undef))).1 h.2
    ·cases hV
 | ef i t G3 rQ rP=>
  intro m L S ρ a w vs As WO Bo R hV hv hQ;simp only [KU] at hV;split at hV
  ·cases hV
  ·rename_i o ho;split at hV
   ·cases hV
   ·rename_i S1 Cf ext L7 h1;split at hV
    ·rename_i T3;simp only [gI,yT,yk] at T3;obtain ⟨⟨⟨Mn,ut⟩,uL⟩,ud⟩:=T3;split at hV
     ·cases hV
     rename_i Eu Gj h2;split at hV
     ·cases hV
     ·rename_i Ld Jk h3;cases hV;obtain ⟨B3,DJ⟩:=Cl.1 hv;obtain ⟨CD,H7⟩:=Cl.1 DJ;have A:=rP m L Bo R h3 H7 hQ
      have sub: ∀ {j k:Nat},k∈IU xs nw j -> k∈Ou xs nw:=fun {j k} hk=>by
       unfold IU at hk;unfold Ou;rcases zP.1 hk with hk | hk
       ·obtain ⟨p,p1,p2⟩:=zh.1 hk;exact zP.2 (.inl (zh.2 ⟨p,(zAQ.1 p1).1,p2⟩))
       ·exact zP.2 (.inr hk)
      have one: ∀ b,Dm ops early b m (.ef i t G3) L=true -> (Region.ready .any ops L).contains i=true -> ∃ m',m=m'+1/\ Dm ops early true m G3 L=true/\ wpOpIn F 0 P ops (NP Q) i (fun a' w'=>RZ ops (fun j=>early.contains j) (fun j=>Zs (IU xs nw j) ρ w) i w w'/\ G9 F 0 P ops Q (RZ ops (fun j=>early.contains j) (fun j=>Zs (IU xs nw j) ρ w)) m' (L.setIfInBounds i true) a' w') a w:=by
       intro b hb hr;cases m with
       | zero=>cases b <;> simp [Dm] at hb
       | succ m=>
        have Cq:(!Pj ops i)=true/\ Dm ops early false m t (L.setIfInBounds i true)=true/\ Dm ops early true (m+1) G3 L=true:=by
         cases b <;> simp only [Dm,yT] at hb <;> exact ⟨hb.1.1.2,hb.1.2,hb.2⟩
        obtain ⟨b1,b2,b3⟩:=Cq;refine ⟨m,rfl,b3,?_⟩;unfold wpOpIn;simp only [ho];refine xj hF R (H2 BA ho) h1 B3 fun ρ' a' w' R' st Dj I5 r7=>?_
        refine ⟨⟨fun hp=>(by rw [hp] at b1;cases b1),fun he=>?_⟩,?_⟩
        ·rcases ud with (h | h) | h
         ·have he:early.contains i=true:=he;rw [he] at h;cases h
         ·exact AQ.ofExt (I5 h)
         ·split at h
          ·rename_i k hk;refine (r7 k hk).mono fun b _ hb=>?_
           obtain ⟨q,q1,q2⟩:=hb;exact .inl ⟨k,q,by simpa using h,q1,q2⟩
          ·cases h
        ·have T:=(rQ m _ (Yn Bo hr) R' h2 CD fun ρ2 a2 w2 q1 q2 q3 q4=>hQ ρ2 a2 w2 q1 (st.st.trans q2) (fun k p hk hp=>q3 k p hk (st.pl k p hp)) (q4.trans Dj)).1 b2;refine ZM (fun j w1 w2 hR=>⟨hR.1,fun he=>(hR.2 he).mono fun b fI hb=>?_⟩) _ _ _ _ T;rcases hb with ⟨k,q,k1,k2,k3⟩ | hb
         ·by_cases hk:k<ρ.length
          ·have e:=st.pl k _ (yQ hk);rw [e] at k2;exact .inl ⟨k,q,k1,by rw [yQ hk];exact k2,k3⟩
          ·refine .inr ?_;rw [R.hr.len] at hk;rcases uL with hx | hx
           ·have:=ya.1 hx k (sub k1);simp only [y8] at this;omega
           ·have Co:k<S1.h.length:=by rw [←R'.hr.len];exact (yZ.1 k2).1
            have ha:=ya.1 ut k (sub k1);simp only [yk,y8] at ha;rcases ha with ha | ha
            ·omega
            ·cases hg:S1.h.getD k none with
             | none=>rw [hg] at ha;cases ha
             | some ob=>
              rcases st.st.grow b ⟨k,ob,q,getD_some hg,k2,k3⟩ with ⟨i2,o2,p2,g1,g2,g3⟩ | h
              ·exfalso
               have uR:=(yZ.1 g1).1;have Iy:=ya.1 hx i2 (yh.2 uR);have e2:S.h.getD i2 none=some o2:=by rw [u8,g1];rfl
               rw [e2] at Iy;cases eo:S1.h.getD i2 none with
               | none=>rw [eo] at Iy;cases Iy
               | some ou=>exact R'.hr.dis i2 k ou ob p2 q b (by omega) (getD_some eo) (getD_some hg) (st.pl i2 p2 g2) k2 g3 k3
              ·exact h
         ·exact .inr (yf st.st.upd.size hb)
      refine ⟨fun h=>?_,fun h j hj hr=>?_⟩
      ·have N5:Region.ready .any ops L=i::RQ G3:=by
        cases m <;> simp only [Dm,yT,yk,yo,RQ,zL,false_or] at h;exact h.1.1.1
       obtain ⟨m',e,ha,hw⟩:=one false h (by rw [N5];simp);subst e;refine ⟨by rw [N5];simp,fun j hj=>?_⟩;have GQ:=hj;rw [N5] at hj;rcases yq.1 hj with rfl | hj
       ·exact hw
       ·obtain ⟨m2,e2,QN⟩:=A.2 ha j hj GQ;cases e2;exact QN
      ·rcases yq.1 hj with rfl | hj
       ·obtain ⟨m',e,ha,hw⟩:=one true h (by simpa using hr);exact ⟨m',e,hw⟩
       ·have ha:Dm ops early true m G3 L=true:=by
         cases m <;> simp only [Dm,yT] at h
         ·cases h
         ·exact h.2
        exact A.2 ha j hj hr
    ·cases hV
theorem Tr.tree {F:Fence} {B:Option Nat} {L:Nat} {Y:Bg P Γ L} {Q:QY P Γ L} (hF:Dl F P) {id:Nat} {ops:Array Oper} {early:List Nat} {t:ST} {As CL:Bw} {S':St} {vs:List Prop} (hm:P.follows .mixedOrders=true) (hB:CF ops early t)
 (h:VI P Γ ops early t S As=some (S',vs,CL)) (hv:Bl vs) (hk:Q .normal S' Y):Tr P Γ F B L Y (.region id ops true) S Q:=fun N ρ a w R y m b=>by
 simp only [CF,yT] at hB;obtain ⟨⟨h1,h2⟩,h3⟩:=hB;unfold VI at h;split at h
 ·cases h
 split at h
 ·cases h
 ·rename_i hV;cases h;have hE:Au w w.drew:=Au.toDrew w;refine i7 hm ((jS hF h3 h2 t ops.size _ xB (R.ext hE) hV hv fun ρ' a' w' R' st Xk Dj=>?_).1 h1);have DP:BO S.h ρ w S'.h ρ' w':=(BO.ext hE).trans st;exact Tr.done R y m b hk R' DP (fun k p _ hp=>Xk k p (by rw [←R.hr.len];exact (yZ.1 hp).1) hp) Dj
end
end Go.Proofs.YtgkhhfnhacibcaaGreatDoor
namespace Go.Proofs.YtgkhhfnhacibcaaGreatDoor
open Go.RowKit
inductive KI where
 | code (c:Code)
 | blk (id:Nat)
 | scp
 | lend (J:St -> Prop)
 | loopN (m:Nat) (b:Code)
def JH (P:Program) (Γ:A9) (F:Fence) (B:Option Nat) (L:Nat) (b:Code) (Q:QY P Γ L):Nat -> St -> Bg P Γ L -> Prop
 | 0,_,_=>False
 | m+1,S,Y=>Tr P Γ F B L Y b S (Oy (JH P Γ F B L b Q m) Q)
theorem JH.loop {P:Program} {Γ:A9} {F:Fence} {B:Option Nat} {L:Nat} {Y:Bg P Γ L} {b:Code} {Q:QY P Γ L} {m:Nat} {S:St} (h:JH P Γ F B L b Q m S Y):Tr P Γ F B L Y (.loop b) S Q:=by
 refine Tr.loop (fun m S Y=>JH P Γ F B L b Q m S Y) m h fun m S Y hm=>?_
 cases m with
 | zero=>exact hm.elim
 | succ m=>
  refine Tr.mono hm fun e S' Y' hq=>?_
  cases e with
  | normal=>exact ⟨m,Nat.lt_succ_self m,hq⟩
  | _=>exact hq
def DZ (P:Program) (Γ:A9) (F:Fence) (B:Option Nat) (L:Nat) (Q:QY P Γ L):List KI -> QY P Γ L
 | [],e,S,Y=>Q e S Y
 | .code c::k,e,S,Y=>match e with
  | .normal=>Tr P Γ F B L Y c S (DZ P Γ F B L Q k)
  | e=>DZ P Γ F B L Q k e S Y
 | .blk id::k,e,S,Y=>match e with
  | .exit i=>if i=id then DZ P Γ F B L Q k .normal S Y else DZ P Γ F B L Q k (.exit i) S Y
  | e=>DZ P Γ F B L Q k e S Y
 | .scp::k,e,S,Y=>match e with
  | .goto _=>False
  | e=>DZ P Γ F B L Q k e S Y
 | .lend J::k,e,S,Y=>match e with
  | .normal=>J S
  | e=>DZ P Γ F B L Q k e S Y
 | .loopN m b::k,e,S,Y=>match e with
  | .normal=>JH P Γ F B L b (DZ P Γ F B L Q k) m S Y
  | e=>DZ P Γ F B L Q k e S Y
def A1 (P:Program) (Γ:A9) (F:Fence) (B:Option Nat) (L:Nat) (Y:Bg P Γ L) (Q:QY P Γ L) (k:List KI) (S:St):Prop:=DZ P Γ F B L Q k .normal S Y
def stay {P:Program} {Γ:A9} {L:Nat} (N:Bg P Γ L) (Q:Exit -> St -> Prop):QY P Γ L:=fun e S Y=>Y=N/\ Q e S
abbrev BY (P:Program) (Γ:A9) (F:Fence) (B:Option Nat) (L:Nat) (N:Bg P Γ L) (Q:Exit -> St -> Prop) (k:List KI) (S:St):Prop:=A1 P Γ F B L N (stay N Q) k S
def Hw (id:Nat):List KI -> Option (List KI)
 | []=>none
 | .blk i::k=>if id=i then some k else Hw id k
 | _::k=>Hw id k
inductive ZH where
 | no
 | ord (st:List (List Nat×Nat)) (la ta:List Nat)
 | stop
 | tre (early:List Nat) (t:ST)
abbrev Bh:=Nat -> ZH
def ZH.isStop:ZH -> Bool
 | .stop=>true
 | _=>false
def AI (i:Nat) (s:Bh):Bh:=fun j=>if j=i then .stop else s j
def A0 (ops:Array Oper) (EL:List (List Nat×Nat)) (Bc tail:List Nat):Prop:=(Vb ops EL Bc tail&&Dq ops&&tail.all fun t=>decide (t<ops.size))=true
inductive KO where
 | at (k:List KI)
 | ret
def B2 (P:Program) (Γ:A9) (A6:Bh):Nat -> List KI -> St -> Bw -> Option (KO×St×List Prop×Bw)
 | 0,_,_,_=>none
 | n+1,k,S,o=>match k with
  | []=>some (.at [],S,[],o)
  | .blk _::k=>B2 P Γ A6 n k S o
  | .scp::k=>B2 P Γ A6 n k S o
  | .lend J::k=>some (.at (.lend J::k),S,[],o)
  | .loopN m b::k=>some (.at (.loopN m b::k),S,[],o)
  | .code c::k=>match c with
   | .skip=>B2 P Γ A6 n k S o
   | .seq a b=>B2 P Γ A6 n (.code a:: .code b::k) S o
   | .block id b=>B2 P Γ A6 n (.code b:: .blk id::k) S o
   | .scope b=>B2 P Γ A6 n (.code b:: .scp::k) S o
   | .label _=>B2 P Γ A6 n k S o
   | .exit id=>match Hw id k with
    | some k'=>B2 P Γ A6 n k' S o
    | none=>some (.at (.code (.exit id)::k),S,[],o)
   | .ret=>some (.ret,S,[],o)
   | .cond x a b=>match Ac S.fr x with
    | .bool true=>B2 P Γ A6 n (.code a::k) S o
    | .bool false=>B2 P Γ A6 n (.code b::k) S o
    | _=>none
   | .region id ops dr=>if (A6 id).isStop then some (.at (.code (.region id ops dr)::k),S,[],o) else match dr with
    | false=>if Dq ops then match Ej P Γ ops ops.toList S o with
     | none=>none
     | some (S',vs,o')=>match B2 P Γ A6 n k S' o' with
      | none=>none
      | some (r,Ce,BZ,Pv)=>some (r,Ce,vs++BZ,Pv)
     else none
    | true=>match A6 id with
     | .no=>none
     | .stop=>none
     | .tre early t=>match VI P Γ ops early t S o with
      | none=>none
      | some (S',vs,o')=>match B2 P Γ A6 n k S' o' with
       | none=>none
       | some (r,Ce,BZ,Pv)=>some (r,Ce,CF ops early t::(vs++BZ),Pv)
     | .ord st la ta=>match hseq P Γ ops S.h st la ta S o with
      | none=>none
      | some (S',vs,o')=>match B2 P Γ A6 n k S' o' with
       | none=>none
       | some (r,Ce,BZ,Pv)=>some (r,Ce,A0 ops st la ta::(vs++BZ),Pv)
   | c=>some (.at (.code c::k),S,[],o)
section
variable {P:Program} {Γ:A9} {F:Fence} {B:Option Nat} {L:Nat} {Y:Bg P Γ L} {Q:QY P Γ L}
theorem vK (hF:Dl F P) {S:St} {id:Nat} {ops:Array Oper} {As CL:Bw} {S':St} {vs:List Prop} {Q:QY P Γ L} (BA:Dq ops=true) (h:Ej P Γ ops ops.toList S As=some (S',vs,CL)) (hv:Bl vs) (hk:Q .normal S' Y):Tr P Γ F B L Y (.region id ops false) S Q:=fun N ρ a w R y m b=>
 wpIn_region_list (LG hF BA _ (fun o ho=>by simpa using ho) R h hv fun ρ' a' w' R' st Dj=>Tr.done R y m b hk R' st.st (fun k p _ hp=>st.pl k p hp) Dj)
theorem sF (hF:Dl F P) {S:St} {id:Nat} {ops:Array Oper} {EL:List (List Nat×Nat)} {Bc tail:List Nat} {As CL:Bw} {S':St} {vs:List Prop} {Q:QY P Γ L} (hm:P.follows .mixedOrders=true) (hB:A0 ops EL Bc tail)
 (h:hseq P Γ ops S.h EL Bc tail S As=some (S',vs,CL)) (hv:Bl vs) (hk:Q .normal S' Y):Tr P Γ F B L Y (.region id ops true) S Q:=fun N ρ a w R y m b=>by
 simp only [A0,yT] at hB;obtain ⟨⟨h1,h2⟩,h3⟩:=hB;have hE:Au w w.drew:=Au.toDrew w;refine i6 hF.fn EL Bc tail hm (by simp only [yT];exact ⟨h1,h2⟩) (XN hF h2 EL Bc tail h3 (R.ext hE) (Cr.refl _ _ _) (Au.refl _) h hv fun ρ' a' w' R' st Dj=>?_);have DP:BO S.h ρ w S'.h ρ' w':=(BO.ext hE).trans st.st;exact Tr.done R y m b hk R' DP (fun k p _ hp=>st.pl k p hp) Dj
theorem L2 {id:Nat} {S:St}: ∀ {k k':List KI},Hw id k=some k' -> DZ P Γ F B L Q k' .normal S Y -> DZ P Γ F B L Q k (.exit id) S Y
 | [],_,h,_=>by cases h
 | .blk i::k,k',h,hq=>by
  unfold Hw at h;split at h
  ·rename_i e;cases h;subst e
   show (if id=id then _ else _)
   rw [yP rfl];exact hq
  ·rename_i e
   show (if id=i then _ else _)
   rw [yb e];exact L2 h hq
 | .code c::k,k',h,hq=>L2 (k:=k) h hq
 | .lend J::k,k',h,hq=>L2 (k:=k) h hq
 | .scp::k,k',h,hq=>L2 (k:=k) h hq
 | .loopN m b::k,k',h,hq=>L2 (k:=k) h hq
theorem NY {S:St} (h:Q .ret S Y): ∀ (k:List KI),DZ P Γ F B L Q k .ret S Y
 | []=>h
 | .blk _::k=>NY h k
 | .code _::k=>NY h k
 | .lend _::k=>NY h k
 | .scp::k=>NY h k
 | .loopN _ _::k=>NY h k
def yL (P:Program) (Γ:A9) (F:Fence) (B:Option Nat) (L:Nat) (Y:Bg P Γ L) (Q:QY P Γ L):KO -> St -> Prop
 | .at k,S=>A1 P Γ F B L Y Q k S
 | .ret,S=>Q .ret S Y
theorem E3 (hF:Dl F P) (hm:P.follows .mixedOrders=true) {A6:Bh}: ∀ (n:Nat) (k:List KI) (S:St) (o:Bw) (r:KO) (S':St) (vs:List Prop) (o':Bw),B2 P Γ A6 n k S o=some (r,S',vs,o') -> Bl vs -> yL P Γ F B L Y Q r S' -> A1 P Γ F B L Y Q k S
 | 0,_,_,_,_,_,_,_,h,_,_=>by cases h
 | n+1,k,S,o,r,S',vs,o',h,hv,hk=>by
  unfold B2 at h;cases k with
  | nil=>cases h;exact hk
  | cons i k=>
   cases i with
   | blk id=>exact E3 hF hm n k S o r S' vs o' h hv hk
   | scp=>exact E3 hF hm n k S o r S' vs o' h hv hk
   | lend J=>cases h;exact hk
   | loopN m b=>cases h;exact hk
   | code c=>
    show Tr P Γ F B L Y c S (DZ P Γ F B L Q k)
    cases c with
    | skip=>exact Tr.skip (E3 hF hm n k S o r S' vs o' h hv hk)
    | seq a b=>
     refine Tr.seq (Tr.mono (E3 hF hm n (.code a:: .code b::k) S o r S' vs o' h hv hk) fun e S2 Y2 hq=>?_);cases e <;> exact hq
    | block id b=>
     refine Tr.block (Tr.mono (E3 hF hm n (.code b:: .blk id::k) S o r S' vs o' h hv hk) fun e S2 Y2 hq=>?_);cases e <;> exact hq
    | exit id=>
     simp only at h;split at h
     ·rename_i k' hp;exact Tr.exit (L2 hp (E3 hF hm n k' S o r S' vs o' h hv hk))
     ·cases h;exact hk
    | ret=>cases h;exact Tr.ret (NY hk k)
    | cond x a b=>
     simp only at h;split at h
     ·rename_i hc;exact Tr.cond hc (fun _=>E3 hF hm n (.code a::k) S o r S' vs o' h hv hk) (fun e=>by cases e)
     ·rename_i hc;exact Tr.cond hc (fun e=>by cases e) (fun _=>E3 hF hm n (.code b::k) S o r S' vs o' h hv hk)
     ·cases h
    | region id ops dr=>
     simp only at h;split at h
     ·cases h;exact hk
     ·cases dr with
      | false=>
       simp only at h;split at h
       ·rename_i BA;split at h
        ·cases h
        ·rename_i S1 Cf o1 h1;split at h
         ·cases h
         ·rename_i r2 S2 Eu o2 h2;cases h;obtain ⟨B3,CD⟩:=Cl.1 hv;exact vK hF BA h1 B3 (E3 hF hm n k S1 o1 _ _ _ _ h2 CD hk)
       ·cases h
      | true=>
       simp only at h;split at h
       ·cases h
       ·cases h
       ·rename_i early t hs;split at h
        ·cases h
        ·rename_i S1 Cf o1 h1;split at h
         ·cases h
         ·rename_i r2 S2 Eu o2 h2;cases h;obtain ⟨K2,DJ⟩:=hv;obtain ⟨B3,CD⟩:=Cl.1 DJ;exact Tr.tree hF hm K2 h1 B3 (E3 hF hm n k S1 o1 _ _ _ _ h2 CD hk)
       ·rename_i st la ta hs;split at h
        ·cases h
        ·rename_i S1 Cf o1 h1;split at h
         ·cases h
         ·rename_i r2 S2 Eu o2 h2;cases h;obtain ⟨K2,DJ⟩:=hv;obtain ⟨B3,CD⟩:=Cl.1 DJ;exact sF hF hm K2 h1 B3 (E3 hF hm n k S1 o1 _ _ _ _ h2 CD hk)
    | loop b=>cases h;exact hk
    | rangeFunc f ps iS bd=>cases h;exact hk
    | scope b=>
     refine Tr.scope (Tr.mono (E3 hF hm n (.code b:: .scp::k) S o r S' vs o' h hv hk) fun e S2 Y2 hq=>?_);cases e <;> exact hq
    | label l=>exact Tr.label (E3 hF hm n k S o r S' vs o' h hv hk)
    | goto l=>cases h;exact hk
    | refuse w=>cases h;exact hk
theorem A1.weaken {k:List KI} {S S':St} (hS:BW L S S') (h:A1 P Γ F B L Y Q k S') (hk: ∃ c k',k= .code c::k'):A1 P Γ F B L Y Q k S:=by
 obtain ⟨c,k',rfl⟩:=hk;exact Tr.weaken hS h
def MN:List KI -> Bool
 | .code (.loop _)::_=>true
 | _=>false
def D1 (k:List KI):List KI:=match k with
 | _::rest=>rest
 | []=>[]
def LL (id:Nat):List Nat -> Code -> List KI -> Option (List KI)
 | ms,.seq a b,k=>match LL id ms a (.code b::k) with
  | some r=>some r
  | none=>LL id ms b k
 | ms,.cond _ a b,k=>match LL id ms a k with
  | some r=>some r
  | none=>LL id ms b k
 | ms,.block i c,k=>if i=id then some (.code c:: .blk i::k) else LL id ms c (.blk i::k)
 | ms,.scope c,k=>LL id ms c (.scp::k)
 | m::ms,.loop b,k=>LL id ms b (.loopN m b::k)
 | _,_,_=>none
def LM (id:Nat):List Nat -> Code -> List KI -> Option (List KI)
 | ms,.seq a b,k=>match LM id ms a (.code b::k) with
  | some r=>some r
  | none=>LM id ms b k
 | ms,.cond _ a b,k=>match LM id ms a k with
  | some r=>some r
  | none=>LM id ms b k
 | ms,.block i c,k=>LM id ms c (.blk i::k)
 | ms,.scope c,k=>LM id ms c (.scp::k)
 | m::ms,.loop b,k=>LM id ms b (.loopN m b::k)
 | _,.region i ops dr,k=>if i=id then some (.code (.region i ops dr)::k) else none
 | _,_,_=>none
def A4 (m:Nat) (k:List KI):List KI:=match k with
 | .code (.loop b)::rest=>.loopN m b::rest
 | _=>[]
def Zd (m:Nat) (k:List KI):List KI:=match k with
 | .code (.loop b)::rest=>.code b:: .loopN m b::rest
 | _=>[]
def start (f:Func):List KI:=match f.body with
 | some c=>[.code c]
 | none=>[]
def Ii (c:Code) (id:Nat):Array Oper:=match c with
 | .region i ops _=>if i=id then ops else #[]
 | .seq a b=>let x:=Ii a id;if x.size=0 then Ii b id else x
 | .cond _ a b=>let x:=Ii a id;if x.size=0 then Ii b id else x
 | .block _ c=>Ii c id
 | .loop c=>Ii c id
 | .scope c=>Ii c id
 | .rangeFunc _ _ a b=>let x:=Ii a id;if x.size=0 then Ii b id else x
 | _=>#[]
def BG (f:Func) (id:Nat):Array Oper:=match f.body with
 | some c=>Ii c id
 | none=>#[]
theorem BY.enter {k:List KI} {S:St} (m:Nat) (hk:MN k=true) (h:A1 P Γ F B L Y Q (A4 m k) S):A1 P Γ F B L Y Q k S:=by
 unfold MN at hk;split at hk
 ·exact JH.loop h
 ·cases hk
theorem BY.round {k:List KI} {S:St} {n m:Nat} (hm:n+1<=m) (hk:MN k=true) (h: ∀ m,n<=m -> A1 P Γ F B L Y Q (Zd m k) S):A1 P Γ F B L Y Q (A4 m k) S:=by
 cases m with
 | zero=>omega
 | succ m=>
  have h:=h m (Nat.le_of_succ_le_succ hm);unfold MN at hk;split at hk
  ·refine Tr.mono h fun e S' Y' hq=>?_
   cases e <;> exact hq
  ·cases hk
def AM (n:Nat) (l:List (Nat×DV)):List DV:=(List.range n).map fun i=>match l.find? (fun x=>x.1==i) with
 | some x=>x.2
 | none=>.any
theorem Fo.le {fn:Func} {d:DV} {h':DH} {e:Exit} {S S':St} (hS:BW L S S') (h:Fo P fn L d h' e S'):Fo P fn L d h' e S:=by
 obtain ⟨he,Ce,h1,h2⟩:=h;exact ⟨he,Ce,hS.trans h1,h2⟩
theorem ES.of_trk {f:Nat} {fn:Func} {ds:List DV} {h:DH} {d:DV} {h':DH} {ext:Bool} (hf:P.funcs[f]? =some fn) (hb:fn.body.isSome=true) (J0:(fn.name== "runtime.NumGoroutine")=false) (QT:Pz h') (I5:ext=true -> h= [])
 (H: ∀ (B:Nat) (N:Bg P Γ h.length),BY P Γ Fence.wide (some B) h.length N (Fo P fn h.length d h') (start fn) ⟨ds++List.replicate (fn.ntmps-ds.length) .any,h⟩):ES P Γ f ds h d h' ext:=by
 cases hc:fn.body with
 | none=>rw [hc] at hb;cases hb
 | some c=>
  refine ES.of_tr hf hc (by simpa using J0) QT (fun B N=>?_) I5;have:=H B N;unfold start at this;rw [hc] at this;refine Tr.mono this fun e S Y hq=>?_
  cases e <;> exact hq
def Gl:DV -> Bool
 | .mse .. =>false
 | .mri .. =>false
 | .ref .. =>false
 | .msl .. =>false
 | .mp .. =>false
 | .it _=>false
 | .agg m f=>(List.range m).all fun j=>Gl (f j)
 | .tup m f=>(List.range m).all fun j=>Gl (f j)
 | .fn _ m f=>(List.range m).all fun j=>Gl (f j)
 | _=>true
theorem Ng: ∀ {d:DV},Gl d=true -> Hf d:=by
 intro d
 induction d with
 | any=>exact fun _ _ _ _ _ _=>trivial
 | nils=>exact fun _ _ _ _ _ h=>h
 | int k n=>exact fun _ _ _ _ _ h=>h
 | bool b=>exact fun _ _ _ _ _ h=>h
 | str s=>exact fun _ _ _ _ _ h=>h
 | ints l=>exact fun _ _ _ _ _ h=>h
 | bools l=>exact fun _ _ _ _ _ h=>h
 | sl m n f _=>exact fun _ _ _ _ _ h=>h
 | fp m f _=>exact fun _ _ _ _ _ h=>h
 | agg m f ih=>exact fun hb=>Hf.agg fun j hj=>ih j (ya.1 hb j (yh.2 hj))
 | tup m f ih=>exact fun hb=>Hf.tup fun j hj=>ih j (ya.1 hb j (yh.2 hj))
 | ref k j=>exact fun hb=>by cases hb
 | msl k m o n=>exact fun hb=>by cases hb
 | mp k m i j=>exact fun hb=>by cases hb
 | fn g m c ih=>exact fun hb M w ρ v ⟨cs,e,hs,hc⟩=>⟨cs,e,hs,fun j hj=>let ⟨u,h1,h2⟩:=hc j hj;⟨u,h1,ih j (ya.1 hb j (yh.2 hj)) M w ρ u h2⟩⟩
 | it k=>exact fun hb=>by cases hb
 | yl l=>exact fun _ _ _ _ _ h=>h
 | cst u=>exact fun _ _ _ _ _ h=>h
 | mse k m o n=>exact fun hb=>by cases hb
 | mri k i=>exact fun hb=>by cases hb
theorem ES.frameB {f:Nat} {ds:List DV} {d:DV} (h0:ES P Γ f ds [] d [] true) (h:DH) (FM:ds.all Gl=true):ES P Γ f ds h d h true:=h0.frame (fun x hx=>Ng (ya.1 FM x hx)) h
def SC:DV -> Bool
 | .int .. =>true
 | .bool _=>true
 | .tup m f=>(List.range m).all fun j=>match f j with
  | .int .. =>true
  | .bool _=>true
  | _=>false
 | _=>false
theorem kb {d:DV} (h:SC d=true):GY d:=by
 unfold SC at h;split at h
 ·exact GY.int _ _
 ·exact GY.bool _
 ·rename_i m f;refine GY.tup fun j hj=>?_
  have:=ya.1 h j (yh.2 hj);split at this
  ·rename_i e;rw [e];exact GY.int _ _
  ·rename_i e;rw [e];exact GY.bool _
  ·cases this
 ·cases h
def LT (h:DH):List DV -> List DV -> Prop
 | [],[]=>True
 | d::ds,d0::DX=>Aa h d d0/\ LT h ds DX
 | _,_=>False
theorem Oj {h:DH}: ∀ {ds DX:List DV},LT h ds DX -> DX.length=ds.length/\ ∀ i,i<ds.length -> Aa h (ds.getD i .any) (DX.getD i .any)
 | [],[],_=>⟨rfl,fun i hi=>absurd hi (yg i)⟩
 | d::ds,d0::DX,⟨h1,h2⟩=>by
  obtain ⟨e,g⟩:=Oj h2;refine ⟨by simp [e],fun i hi=>?_⟩;cases i with
  | zero=>exact h1
  | succ i=>exact g i (by simpa using hi)
 | [],_::_,h=>h.elim
 | _::_,[],h=>h.elim
theorem Aa.plain {h:DH} {d:DV} (hn:Gl d=true):Aa h d d:=Aa.nref (Ng hn)
theorem Aa.nils {h:DH}:Aa h .nils (.ints []):=fun _ _ _ _ _ _ _ hr=>AS.ints_nil _ _ _ _ (AO.out _ (DR (M:=fun _=>False) (fun _ hb=>hb) []) hr)
theorem ES.snapB {f:Nat} {ds DX:List DV} {d:DV} (h0:ES P Γ f DX [] d [] true) (h:DH) (hs:LT h ds DX) (hd:SC d=true):ES P Γ f ds h d h true:=ES.snap h0 h (Oj hs).1 (Oj hs).2 (kb hd)
theorem AS.of_eq {d d':DV} (h:d=d'):AS d d':=by rw [h];exact AS.refl _
theorem MP {M:Nat -> Prop} {w:World} {ρ:List AN} {v:Value} {l:List Int} (h:AO M w (.ints l) ρ v):l.length<=LB:=let ⟨_,_,_,_,h,_⟩:=h;h
theorem iy {x c:Int} (h1:x=c) (h2: -9223372036854775808<=c) (h3:c<=9223372036854775807):IntKind.i64.wrap x=c:=by
 subst h1;rw [IntKind.wrap_i64];omega
end
end Go.Proofs.YtgkhhfnhacibcaaGreatDoor
namespace Go.Proofs.YtgkhhfnhacibcaaGreatDoor
open Go.RowKit
def LV (w:World):Prop:=TabAt 1 Lib.deBruijn64tab w
def GG:A9 where
 ng:=2
 gi:=fun w=>LV w/\ 2<=w.heap.size
 st:=fun w w' h hu=>⟨fun j hj=>hu.cell (by show ¬ (2<=1);omega) (h.1 j hj),yf h.2 hu.size⟩
 lo:=fun w h=>h.2
end Go.Proofs.YtgkhhfnhacibcaaGreatDoor
namespace Go.Proofs.YtgkhhfnhacibcaaGreatDoor
abbrev zBO:=@List.all_cons
end Go.Proofs.YtgkhhfnhacibcaaGreatDoor
namespace Go.Proofs.YtgkhhfnhacibcaaGreatDoor
open Go.RowKit
theorem Dx {α:Type} {c:Prop} [Decidable c] {a:Option α} {r:α} (h:(if c then a else none)=some r):c/\ a=some r:=by
 split at h
 ·exact ⟨by assumption,h⟩
 ·cases h
theorem Ys {α β:Type} {o:Option β} {f:β -> Option α} {r:α} (h:o.bind f=some r): ∃ v,o=some v/\ f v=some r:=by
 cases o with
 | none=>cases h
 | some v=>exact ⟨v,rfl,h⟩
theorem GV {α:Type} {b:Bool} {x y:Option α} {r:α} (h:(bif b then x else y)=some r):(b=true/\ x=some r)∨(b=false/\ y=some r):=by
 cases b
 ·exact .inr ⟨rfl,h⟩
 ·exact .inl ⟨rfl,h⟩
def n5:Int -> Bool
 | .ofNat n=>Nat.ble n 9223372036854775807
 | .negSucc n=>Nat.ble n 9223372036854775807
def AL (x:Int):Prop:=n5 x=true
instance (x:Int):Decidable (AL x):=by unfold AL;infer_instance
theorem A2 {x:Int}:AL x↔-9223372036854775808<=x/\ x<=9223372036854775807:=by
 unfold AL;cases x with
 | ofNat n=>
  show Nat.ble n 9223372036854775807=true↔_
  rw [Nat.ble_eq];simp only [Int.ofNat_eq_natCast];omega
 | negSucc n=>
  show Nat.ble n 9223372036854775807=true↔_
  rw [Nat.ble_eq];omega
theorem iz {x:Int} (h:AL x):AS (.int .i64 (IntKind.i64.wrap x)) (.int .i64 x):=AS.int (iy rfl (A2.1 h).1 (A2.1 h).2)
def comp (live σ:List Nat) (S:St):St:=FN σ ⟨forget live S.fr,S.h⟩
def JW (σ:List Nat) (L n:Nat):Bool:=decide σ.Nodup&&σ.all (fun k=>decide (k<n))&&(List.range L).all fun k=>decide (σ[k]? =some k)
theorem BW.comp {L:Nat} (live σ:List Nat) (S:St) (h:JW σ L S.h.length=true):BW L S (comp live σ S):=by
 simp only [JW,yT,y8,ya,yh] at h;exact (BW.forget live S.fr S.h).trans (BW.compact σ _ h.1.1 (fun k hk=>h.1.2 k hk) (fun k hk=>h.2 k hk))
def Pq (live σ:List Nat) (L:Nat) (r:KO×St×List Prop×Bw):KO×List DV×DH×List Prop×List (DV×DH×Bool)×List (Nat×DV)×Bool:=(r.1,(Proofs.YtgkhhfnhacibcaaGreatDoor.comp live σ r.2.1).fr,(Proofs.YtgkhhfnhacibcaaGreatDoor.comp live σ r.2.1).h,r.2.2.1,r.2.2.2.calls,r.2.2.2.co,JW σ L r.2.1.h.length)
section
variable {P:Program} {Γ:A9} {F:Fence} {B:Option Nat} {L:Nat} {Y N:Bg P Γ L} {Q:QY P Γ L}
theorem od {A6:Bh} {n:Nat} {k:List KI} {S:St} {o:Bw} {live σ:List Nat} {r:KO} {fr:List DV} {h':DH} {vs:List Prop} (h:(B2 P Γ A6 n k S o).map (Pq live σ L)=some (r,fr,h',vs,[],[],true)):
 ∃ S' o',B2 P Γ A6 n k S o=some (r,S',vs,o')/\ BW L S' ⟨fr,h'⟩:=by
 cases hr:B2 P Γ A6 n k S o with
 | none=>rw [hr] at h;cases h
 | some r=>
  obtain ⟨r1,S1,Cf,⟨c1,o1,z1,g1⟩⟩:=r;rw [hr] at h;simp only [zD,Pq,ze,zv] at h;obtain ⟨rfl,rfl,rfl,rfl,rfl,rfl,hs⟩:=h;exact ⟨S1,_,rfl,BW.comp live σ S1 hs⟩
def H3:List KI -> Bool
 | .code _::_=>true
 | .loopN _ _::_=>true
 | _=>false
theorem JH.weaken {b:Code} {m:Nat} {S S':St} (hS:BW L S S') (h:JH P Γ F B L b Q m S' Y):JH P Γ F B L b Q m S Y:=by
 cases m with
 | zero=>exact h.elim
 | succ m=>exact Tr.weaken hS h
theorem BY.le {k:List KI} {S S':St} (hS:BW L S S') (hc:H3 k=true) (h:A1 P Γ F B L Y Q k S'):A1 P Γ F B L Y Q k S:=by
 unfold H3 at hc;split at hc
 ·exact A1.weaken hS h ⟨_,_,rfl⟩
 ·exact JH.weaken hS h
 ·cases hc
theorem BW.frzE {S:St} (k:Nat) (S':St) (vs:List Prop) (h:Ql k S=some (S',vs)) (hv:Bl vs):BW L S S':=fun P Γ N ρ a w R=>
 ⟨ρ,(Da.frzE k S' vs h hv P Γ N ρ a w R).1,(Da.frzE k S' vs h hv P Γ N ρ a w R).2,EH.refl _ _⟩
theorem BW.compE {S:St} (σ:List Nat) (h:JW σ L S.h.length=true):BW L S (FN σ S):=by
 simp only [JW,yT,y8,ya,yh] at h;exact BW.compact σ _ h.1.1 (fun k hk=>h.1.2 k hk) (fun k hk=>h.2 k hk)
def WY:Option DO -> Bool
 | some (.iter _)=>false
 | _=>true
theorem cZ {h:DH} (hb:h.all WY=true):Pz h:=fun k encs hk=>by
 have:=ya.1 hb _ (zX hk);cases this
theorem Aa.refL {h:DH} {k:Nat} {l l0:List DV} (hk:h[k]? =some (some (.cells l))) (hs:LT h l l0):Aa h (.ref k 0) (.fp l.length (fun j=>l0.getD j .any)):=
 Aa.ref hk (ym _) fun j hj=>(Oj hs).2 j hj
theorem Aa.fnL {h:DH} {g:Nat} {l l0:List DV} (hs:LT h l l0):Aa h (.fn g l.length (fun j=>l.getD j .any)) (.fn g l.length (fun j=>l0.getD j .any)):=by
 rintro P Γ N ρ w v H ⟨lb,e,hl,hc⟩;exact ⟨lb,e,hl,fun j hj=>let ⟨u,h1,h2⟩:=hc j hj;⟨u,h1,(Oj hs).2 j hj P Γ N ρ w u H h2⟩⟩
theorem AS.ixI (l:List Int) {n:Int} {m:Nat} (hm:m=l.length) (h:(0:Int)<=n/\ n<((m:Nat):Int)):AS ((l.map (DV.int .i64)).getD n.toNat .any) (.int .i64 (l.getD n.toNat 0)):=by
 subst hm;have hl:n.toNat<l.length:=by omega
 have:(l.map (DV.int .i64)).getD n.toNat .any= .int .i64 (l.getD n.toNat 0):=by simp [hl]
 rw [this];exact AS.refl _
theorem AS.mslN {k m o n n':Nat} (h:n=n'):AS (.msl k m o n) (.msl k m o n'):=by rw [h];exact AS.refl _
def m8:DO -> Bool
 | .ints _=>true
 | .bools _=>true
 | _=>false
theorem ES.snapNew {f:Nat} {ds DX:List DV} {m n:Nat} {o:DO} (h0:ES P Γ f DX [] (.msl 0 m 0 n) [some o] true) (h:DH) (hs:LT h ds DX) (ho:m8 o=true):ES P Γ f ds h (.msl h.length m 0 n) (h++[some o]) true:=by
 obtain ⟨hl,hs⟩:=Oj hs;refine ⟨h0.1,fun N ρ w args HR Ci=>?_⟩;refine (h0.2 (fun _=>False) [] w args (N4 (fun b hb=>hb.elim) HR.gi) ⟨by rw [hl];exact Ci.1,fun i hi=>?_⟩).mono ?_
 ·rw [hl] at hi;exact AO.out _ (DR (fun b hb=>NC.1 hb) []) (hs i hi P Γ N ρ w _ HR (Ci.2 i hi))
 ·rintro e w' ⟨v,rfl,⟨⟨ρ',g1,g2,g3,g4⟩,g5⟩⟩;have hE:=g5 rfl;obtain ⟨p,hp,C0⟩:=g1.obj 0 o rfl;have hf: ∀ b,p.foot b -> w.heap.size<=b:=fun b hb=>(g3.grow b ⟨0,o,p,rfl,hp,hb⟩).resolve_left fun ⟨k,o',p',q1,_⟩=>by simp at q1
  obtain ⟨p',cap,BJ,e1,e2,e3,e4⟩:=g2;have ep:p'=p:=yY (BJ.symm.trans hp);subst ep;refine ⟨v,rfl,⟨⟨ρ++[p'],HR.snoc hE (fun b hb=>⟨hf b hb,(g1.cel 0 o p' b rfl hp hb).2.2⟩) ?_,⟨p',cap,by rw [←HR.len];simp,e1,e2,e3,e4⟩,BO.snoc HR hE hf,fun _ _ h=>EC h⟩,g5⟩⟩;cases o with
  | ints l=>exact Ak.out C0 rfl fun j u _ hu=>hu
  | bools l=>exact Ak.out C0 rfl fun j u _ hu=>hu
  | cells l=>cases ho
  | arr m n f=>cases ho
  | iter encs=>cases ho
  | mo x=>cases ho
theorem ZE {h:DH}: ∀ {ds:List DV},ds.all Gl=true -> LT h ds ds
 | [],_=>trivial
 | d::ds,hd=>by
  simp only [zBO,yT] at hd;exact ⟨Aa.plain hd.1,ZE hd.2⟩
theorem AS.aggL {m:Nat} {l l':List DV} (hm:m=l.length) (h:LU l l'):AS (.agg m (fun j=>l.getD j .any)) (.agg m (fun j=>l'.getD j .any)):=by
 subst hm;rintro M w ρ v ⟨cs,e,hs,hc⟩;exact ⟨cs,e,hs,fun j hj=>let ⟨u,h1,h2⟩:=hc j hj;⟨u,h1,(RR h).2 j hj M w ρ u h2⟩⟩
theorem AS.tupL {m:Nat} {l l':List DV} (hm:m=l.length) (h:LU l l'):AS (.tup m (fun j=>l.getD j .any)) (.tup m (fun j=>l'.getD j .any)):=by
 subst hm;rintro M w ρ v ⟨cs,e,hs,hc⟩;exact ⟨cs,e,hs,fun j hj=>let ⟨u,h1,h2⟩:=hc j hj;⟨u,h1,(RR h).2 j hj M w ρ u h2⟩⟩
theorem Aa.dle {h:DH} {d d0:DV} (hn:Gl d=true) (hd:AS d d0):Aa h d d0:=fun P Γ N ρ w v H hr=>hd _ _ _ _ ((Aa.nref (Ng hn)) P Γ N ρ w v H hr)
theorem ES.argsLe {f:Nat} {ds DX:List DV} {h h':DH} {d:DV} {ext:Bool} (h0:ES P Γ f DX h d h' ext) (hd:LU ds DX):ES P Γ f ds h d h' ext:=by
 obtain ⟨hl,hd⟩:=RR hd;exact ⟨h0.1,fun N ρ w args HR Ci=>h0.2 N ρ w args HR ⟨by rw [←hl];exact Ci.1,fun i hi=>hd i (by omega) _ _ _ _ (Ci.2 i (by omega))⟩⟩
theorem AS.mse_msl {k m o n n':Nat} (h:0<n) (e:n=n'):AS (.mse k m o n) (.msl k m o n'):=by
 subst e;rintro M w ρ v ⟨p,a,cap,hp,rfl,h1,h2,h3⟩;obtain ⟨rfl,h4⟩:=h3 (by omega);exact ⟨p,cap,hp,rfl,h1,h2,h4⟩
theorem AS.mse_nil {k m o n:Nat} (h:n=0):AS (.mse k m o n) (.ints []):=by
 subst h;rintro M w ρ v ⟨p,a,cap,hp,rfl,h1,h2,h3⟩;exact ⟨a,cap,rfl,zr _,zr _,fun j hj=>absurd hj (yg j)⟩
theorem oF {n:Nat} (h:(n==0)=false):0<n:=by
 have:n≠0:=by simpa using h
 omega
def Kg (k off k':Nat):DV -> DV
 | .msl k1 m o n=>if k1=k/\ m=1/\ o=off then .msl k' 1 0 n else .msl k1 m o n
 | d=>d
def bF (k off:Nat) (S:St):Option (St×List Prop):=match S.h.getD k none with
 | some (.ints l)=>some (⟨S.fr.map (Kg k off S.h.length),S.h.set k none++[some (.ints (l.drop off))]⟩,[off<=l.length])
 | _=>none
theorem BW.rootE {S:St} (k off:Nat) (S':St) (vs:List Prop) (h:bF k off S=some (S',vs)) (hv:Bl vs):BW L S S':=fun P Γ N ρ a w R=>by
 unfold bF at h;split at h
 ·rename_i l hl;cases h;have hv:=hv.1;have hk:=getD_some hl;obtain ⟨p,hp,hr⟩:=R.hr.obj k _ hk;have hr:Ak w p l.length _:=hr;obtain ⟨hf,cs,t,c1,c2,c3,c4⟩:=hr
  let p':AN:={ p with off:=p.off+off }
  obtain ⟨g1,g2⟩:=R.hr.regrow (o':=.ints (l.drop off)) (p':=p') hk hp (AQ.refl _ _) (fun b hb=>⟨.inl hb,(R.hr.cel k _ p b hk hp hb).2.2⟩) (by
   refine ⟨hf,cs,t,c1,?_,c3,fun j hj=>?_⟩
   ·simp only [zBM,p'];omega
   ·rw [zBM] at hj;obtain ⟨u,q1,q2⟩:=c4 (off+j) (by omega);refine ⟨u,by rw [←q1];simp only [p',zN],?_⟩;rw [q2];simp [u8,zAc])
  have O:Bi (MS N S.h ρ) w ρ (MS N (S.h.set k none++[some (.ints (l.drop off))]) (ρ++[p'])) w (ρ++[p']):=⟨fun _ _ _ _=>rfl,fun b hb=>hb.elim (fun h=>.inl (.inl h)) fun h=>(g2.grow b h).imp .inr id,fun _ _ h=>EC h⟩;refine ⟨ρ++[p'],⟨g1,by simp [R.fr.1],fun i hi=>?_⟩,g2,fun _ _ _ h=>EC h⟩;have BN:i<S.fr.length:=by simpa using hi
  have e:(S.fr.map (Kg k off S.h.length)).getD i .any=Kg k off S.h.length (S.fr.getD i .any):=by simp [BN]
  show AO _ w ((S.fr.map (Kg k off S.h.length)).getD i .any) _ _
  rw [e];have r0:=R.fr.2 i BN;cases hd:S.fr.getD i .any with
  | msl k1 m o n=>
   rw [hd] at r0
   by_cases hc:k1=k/\ m=1/\ o=off
   ·have e2:Kg k off S.h.length (.msl k1 m o n)= .msl S.h.length 1 0 n:=by simp only [Kg,yP hc]
    rw [e2];obtain ⟨h1,h2,h3⟩:=hc;rw [h1,h2,h3] at r0;obtain ⟨q,cap,hq,hu,u1,u2,u3⟩:=r0;have eq:q=p:=yY (hq.symm.trans hp);subst eq;exact ⟨p',cap,by rw [←R.hr.len];simp,by rw [hu];simp [p'],u1,u2,by simp only [p'];omega⟩
   ·have e2:Kg k off S.h.length (.msl k1 m o n)= .msl k1 m o n:=by simp only [Kg,yb hc]
    rw [e2];exact AO.out _ O r0
  | _=>rw [hd] at r0;exact AO.out _ O r0
 ·cases h
end
end Go.Proofs.YtgkhhfnhacibcaaGreatDoor
namespace Go.Proofs.YtgkhhfnhacibcaaGreatDoor
abbrev zV:=@Nat.le_of_ble_eq_true
end Go.Proofs.YtgkhhfnhacibcaaGreatDoor
namespace Go.Proofs.YtgkhhfnhacibcaaGreatDoor
open Go.RowKit
def Ew (σ:List Nat) (b k:Nat):Nat:=if k<σ.length then σ.getD k 0 else b+(k-σ.length)
def up (σ:List Nat) (b:Nat):DV -> DV
 | .ref k j=>.ref (Ew σ b k) j
 | .msl k m o n=>.msl (Ew σ b k) m o n
 | .mse k m o n=>.mse (Ew σ b k) m o n
 | .mri k i=>.mri (Ew σ b k) i
 | .mp k m i j=>.mp (Ew σ b k) m i j
 | .it k=>.it (Ew σ b k)
 | .agg m f=>.agg m (GH m fun j=>up σ b (f j))
 | .tup m f=>.tup m (GH m fun j=>up σ b (f j))
 | .fn g m c=>.fn g m (GH m fun j=>up σ b (c j))
 | d=>d
def EI (σ:List Nat) (b:Nat):Option DO -> Option DO
 | some (.cells l)=>some (.cells (l.map (up σ b)))
 | o=>o
def Em (H:DH) (σ:List Nat) (h':DH):DH:=((List.range H.length).map fun k=>match De σ k with
 | some i=>EI σ H.length (h'.getD i none)
 | none=>H.getD k none)++(h'.drop σ.length).map (EI σ H.length)
theorem Vw {σ:List Nat} (hn:σ.Nodup) {i k:Nat} (h:σ[i]? =some k):De σ k=some i:=by
 induction σ generalizing i with
 | nil=>simp at h
 | cons x σ ih=>
  unfold De;cases i with
  | zero=>
   have:x=k:=by simpa using h
   rw [yP this]
  | succ i=>
   have h':σ[i]? =some k:=by simpa using h
   have Ap:x≠k:=by
    rintro rfl;exact (zBS.1 hn).1 (zX h')
   rw [yb Ap,ih (zBS.1 hn).2 h'];rfl
theorem VF {σ:List Nat} {b:Nat} {x:Option DO} {o:DO} (h:EI σ b x=some o): ∃ o0,x=some o0:=by
 cases x with
 | none=>cases h
 | some o0=>exact ⟨o0,rfl⟩
section
variable {P:Program} {Γ:A9}
theorem Za {M M':Nat -> Prop} {w:World} {σ:List Nat} {b:Nat} {ρ ρ':List AN} (hM: ∀ b,M' b -> M b) (hρ: ∀ (k:Nat) (p:AN),ρ[k]? =some p -> ρ'[Ew σ b k]? =some p): ∀ (d:DV) {v:Value},AO M w d ρ v -> AO M' w (up σ b d) ρ' v:=by
 have low: ∀ (d:DV) {v:Value},AO M w d [] v -> AO M' w d [] v:=fun d v h=>h.out d (DR hM [])
 intro d
 induction d with
 | any=>intro v _;trivial
 | nils=>intro v h;exact h
 | int k n=>intro v h;exact h
 | bool b=>intro v h;exact h
 | str s=>intro v h;exact h
 | ints l=>intro v h;exact low (.ints l) h
 | bools l=>intro v h;exact low (.bools l) h
 | sl m n f _=>intro v h;exact low (.sl m n f) h
 | fp m f _=>intro v h;exact low (.fp m f) h
 | agg m f ih=>
  rintro v ⟨cs,e,hs,h⟩;exact ⟨cs,e,hs,fun j hj=>let ⟨u,h1,h2⟩:=h j hj;⟨u,h1,KW hj (ih j h2)⟩⟩
 | tup m f ih=>
  rintro v ⟨cs,e,hs,h⟩;exact ⟨cs,e,hs,fun j hj=>let ⟨u,h1,h2⟩:=h j hj;⟨u,h1,KW hj (ih j h2)⟩⟩
 | fn g m c ih=>
  rintro v ⟨cs,e,hs,h⟩;exact ⟨cs,e,hs,fun j hj=>let ⟨u,h1,h2⟩:=h j hj;⟨u,h1,KW hj (ih j h2)⟩⟩
 | ref k j=>rintro v ⟨p,hp,r⟩;exact ⟨p,hρ k p hp,r⟩
 | msl k m o n=>rintro v ⟨p,cap,hp,r⟩;exact ⟨p,cap,hρ k p hp,r⟩
 | mp k m i j=>rintro v ⟨p,hp,r⟩;exact ⟨p,hρ k p hp,r⟩
 | it k=>rintro v ⟨p,hp,r⟩;exact ⟨p,hρ k p hp,r⟩
 | cst u=>intro v h;exact h
 | yl l=>intro v h;exact h
 | mse k m o n=>rintro v ⟨p,a,cap,hp,r⟩;exact ⟨p,a,cap,hρ k p hp,r⟩
 | mri k i=>rintro v ⟨p,vs,hp,r⟩;exact ⟨p,vs,hρ k p hp,r⟩
theorem gK {M M':Nat -> Prop} {w:World} {σ:List Nat} {b:Nat} {ρ ρ':List AN} (hM: ∀ b,M' b -> M b) (hρ: ∀ (k:Nat) (p:AN),ρ[Ew σ b k]? =some p -> ρ'[k]? =some p): ∀ (d:DV) {v:Value},AO M w (up σ b d) ρ v -> AO M' w d ρ' v:=by
 have low: ∀ (d:DV) {v:Value},AO M w d [] v -> AO M' w d [] v:=fun d v h=>h.out d (DR hM [])
 have VG: ∀ {m j:Nat} {f:Nat -> DV} {u:Value},j<m -> AO M w (GH m f j) ρ u -> AO M w (f j) ρ u:=fun hj h=>by rw [Rr hj] at h;exact h
 intro d
 induction d with
 | any=>intro v _;trivial
 | nils=>intro v h;exact h
 | int k n=>intro v h;exact h
 | bool b=>intro v h;exact h
 | str s=>intro v h;exact h
 | ints l=>intro v h;exact low (.ints l) h
 | bools l=>intro v h;exact low (.bools l) h
 | sl m n f _=>intro v h;exact low (.sl m n f) h
 | fp m f _=>intro v h;exact low (.fp m f) h
 | agg m f ih=>
  rintro v ⟨cs,e,hs,h⟩;exact ⟨cs,e,hs,fun j hj=>let ⟨u,h1,h2⟩:=h j hj;⟨u,h1,ih j (VG hj h2)⟩⟩
 | tup m f ih=>
  rintro v ⟨cs,e,hs,h⟩;exact ⟨cs,e,hs,fun j hj=>let ⟨u,h1,h2⟩:=h j hj;⟨u,h1,ih j (VG hj h2)⟩⟩
 | fn g m c ih=>
  rintro v ⟨cs,e,hs,h⟩;exact ⟨cs,e,hs,fun j hj=>let ⟨u,h1,h2⟩:=h j hj;⟨u,h1,ih j (VG hj h2)⟩⟩
 | ref k j=>rintro v ⟨p,hp,r⟩;exact ⟨p,hρ k p hp,r⟩
 | msl k m o n=>rintro v ⟨p,cap,hp,r⟩;exact ⟨p,cap,hρ k p hp,r⟩
 | mp k m i j=>rintro v ⟨p,hp,r⟩;exact ⟨p,hρ k p hp,r⟩
 | it k=>rintro v ⟨p,hp,r⟩;exact ⟨p,hρ k p hp,r⟩
 | cst u=>intro v h;exact h
 | yl l=>intro v h;exact h
 | mse k m o n=>rintro v ⟨p,a,cap,hp,r⟩;exact ⟨p,a,cap,hρ k p hp,r⟩
 | mri k i=>rintro v ⟨p,vs,hp,r⟩;exact ⟨p,vs,hρ k p hp,r⟩
theorem jI {M M':Nat -> Prop} {w:World} {σ:List Nat} {b:Nat} {ρ ρ':List AN} {p:AN} (hM: ∀ b,M' b -> M b) (hρ: ∀ (k:Nat) (p:AN),ρ[k]? =some p -> ρ'[Ew σ b k]? =some p) {o o':DO} (ho:EI σ b (some o)=some o') (h:Db P M w ρ p o):Db P M' w ρ' p o':=by
 cases o with
 | cells l=>
  cases ho
  show Ak w p (l.map (up σ b)).length _
  rw [zf];refine Ak.out h rfl fun j u hj hu=>?_
  have:(l.map (up σ b)).getD j .any=up σ b (l.getD j .any):=by simp [hj]
  rw [this];exact Za hM hρ _ hu
 | ints l=>cases ho;exact Ak.out h rfl fun j u _ hu=>hu
 | bools l=>cases ho;exact Ak.out h rfl fun j u _ hu=>hu
 | arr m n f=>cases ho;exact Ak.out h rfl fun j u _ hu=>AO.out _ (DR hM []) hu
 | iter encs=>
  cases ho;obtain ⟨gf,lb,Rd,q1,q2,q3,q4⟩:=h;exact ⟨gf,lb,Rd,q1,q2,fun b hb=>⟨fun hm=>(q3 b hb).1 (hM b hm),(q3 b hb).2⟩,q4⟩
 | mo x=>cases ho;exact h
theorem wG {M M':Nat -> Prop} {w:World} {σ:List Nat} {b:Nat} {ρ ρ':List AN} {p:AN} (hM: ∀ b,M' b -> M b) (hρ: ∀ (k:Nat) (p:AN),ρ[Ew σ b k]? =some p -> ρ'[k]? =some p) {o o':DO} (ho:EI σ b (some o)=some o') (h:Db P M w ρ p o'):Db P M' w ρ' p o:=by
 cases o with
 | cells l=>
  cases ho;have h:Ak w p (l.map (up σ b)).length _:=h;rw [zf] at h;refine Ak.out h rfl fun j u hj hu=>?_
  have:(l.map (up σ b)).getD j .any=up σ b (l.getD j .any):=by simp [hj]
  rw [this] at hu;exact gK hM hρ _ hu
 | ints l=>cases ho;exact Ak.out h rfl fun j u _ hu=>hu
 | bools l=>cases ho;exact Ak.out h rfl fun j u _ hu=>hu
 | arr m n f=>cases ho;exact Ak.out h rfl fun j u _ hu=>AO.out _ (DR hM []) hu
 | iter encs=>
  cases ho;obtain ⟨gf,lb,Rd,q1,q2,q3,q4⟩:=h;exact ⟨gf,lb,Rd,q1,q2,fun b hb=>⟨fun hm=>(q3 b hb).1 (hM b hm),(q3 b hb).2⟩,q4⟩
 | mo x=>cases ho;exact h
theorem ES.embedX {f:Nat} {ds:List DV} {h:DH} {d:DV} {h':DH} {ext:Bool} (Ei:ES P Γ f ds h d h' ext) (σ:List Nat) (H:DH) (hn:σ.Nodup) (AU: ∀ k∈σ,k<H.length) (hl:σ.length=h.length) (EA:h.length<=h'.length)
 (hh:(σ.map fun k=>H.getD k none)=h.map (EI σ H.length)):(∃ fn,P.funcs[f]? =some fn/\ fn.name≠ "runtime.NumGoroutine" /\ fn.body.isSome=true)/\
 ∀ (N:Nat -> Prop) (ρ:List AN) (w:World) (args:Array Value),Bb P Γ N H ρ w -> B8 (MS N H ρ) w ρ (ds.map (up σ H.length)) args ->
  Calls P f args w fun e w'=>∃ v,e= .returned v/\ C6 P Γ N H ρ w ext (up σ H.length d) (Em H σ h') v w'/\ AQ (fun b=>∃ i o p,i∈σ/\ H[i]? =some (some o)/\ ρ[i]? =some p/\ p.foot b) w w':=by
 refine ⟨Ei.1,fun N ρ w args HR Ci=>?_⟩;obtain ⟨ρ0,dx⟩: ∃ ρ0,ρ0=σ.map fun k=>ρ.getD k cY:=⟨_,rfl⟩
 have dK:ρ0.length=σ.length:=by rw [dx];simp
 have JF: ∀ {i k:Nat},σ[i]? =some k -> ρ0[i]? =ρ[k]? :=fun {i k} hk=>by
  have Co:k<ρ.length:=by rw [HR.len];exact AU k (zX hk)
  rw [dx,y9,hk];simp [Co]
 have R7: ∀ {i:Nat},i<σ.length -> ∃ k,σ[i]? =some k/\ Ew σ H.length i=k:=fun {i} hi=>by
  refine ⟨σ[i],by simp [hi],?_⟩;unfold Ew;rw [yP hi];simp [hi]
 have L8: ∀ {i:Nat} {o:DO},h[i]? =some (some o) -> ∃ k o',σ[i]? =some k/\ H[k]? =some (some o')/\ EI σ H.length (some o)=some o':=fun {i o} hi=>by
  have EP:i<σ.length:=by rw [hl];exact (yZ.1 hi).1
  obtain ⟨k,hk,_⟩:=R7 EP;have e:=congrArg (·[i]?) hh;simp only [y9,hk,hi,zD] at e;have CV:=AU k (zX hk);have e:H.getD k none=EI σ H.length (some o):=yY e;have e2: ∃ o',EI σ H.length (some o)=some o':=by cases o <;> exact ⟨_,rfl⟩
  obtain ⟨o',I0⟩:=e2;refine ⟨k,o',hk,?_,I0⟩;rw [I0] at e;rw [yQ CV];rw [u8,yQ CV] at e;exact congrArg some e
 have oq: ∀ {i k:Nat} {o':DO},σ[i]? =some k -> H[k]? =some (some o') -> ∃ o,h[i]? =some (some o)/\ EI σ H.length (some o)=some o':=fun {i k o'} hk ho=>by
  have EP:i<h.length:=by rw [←hl];exact (yZ.1 hk).1
  have e:=congrArg (·[i]?) hh;simp only [y9,hk,yQ EP,zD] at e;have e:H.getD k none=EI σ H.length h[i]:=yY e;rw [fW ho] at e;obtain ⟨o0,e0⟩:=VF e.symm;exact ⟨o0,by rw [yQ EP,e0],by rw [e0] at e;exact e.symm⟩
 obtain ⟨N0,IC⟩: ∃ N0:Nat -> Prop,N0=fun b=>N b∨∃ k o p,De σ k=none/\ H[k]? =some (some o)/\ ρ[k]? =some p/\ p.foot b:=⟨_,rfl⟩
 have P4: ∀ b,MO h ρ0 b -> MO H ρ b:=by
  rintro b ⟨i,o,p,g1,g2,g3⟩;obtain ⟨k,o',e1,e2,_⟩:=L8 g1;exact ⟨k,o',p,e2,(JF e1).symm.trans g2,g3⟩
 have Wa: ∀ b,MS N0 h ρ0 b -> MS N H ρ b:=by
  rintro b (hb | hb)
  ·rw [IC] at hb;rcases hb with hb | ⟨k,o,p,_,g1,g2,g3⟩
   ·exact .inl hb
   ·exact .inr ⟨k,o,p,g1,g2,g3⟩
  ·exact .inr (P4 b hb)
 have ms1: ∀ b,MS N H ρ b -> MS N0 h ρ0 b:=by
  rintro b (hb | ⟨k,o,p,g1,g2,g3⟩)
  ·exact .inl (by rw [IC];exact .inl hb)
  ·cases hk:De σ k with
   | none=>exact .inl (by rw [IC];exact .inr ⟨k,o,p,hk,g1,g2,g3⟩)
   | some i=>
    have hi:=Jd hk;obtain ⟨o0,e1,_⟩:=oq hi g1;exact .inr ⟨i,o0,p,e1,(JF hi).trans g2,g3⟩
 have dn: ∀ (k:Nat) (p:AN),ρ[Ew σ H.length k]? =some p -> ρ0[k]? =some p:=fun k p hp=>by
  by_cases hk:k<σ.length
  ·obtain ⟨k',e1,e2⟩:=R7 hk;rw [e2] at hp;exact (JF e1).trans hp
  ·unfold Ew at hp;rw [yb hk] at hp;have:=(yZ.1 hp).1;rw [HR.len] at this;omega
 have foreign: ∀ {b:Nat},N0 b -> ¬ MO h ρ0 b:=by
  rintro b hb ⟨i,o,p,g1,g2,g3⟩;obtain ⟨k,o',e1,e2,_⟩:=L8 g1;have hp:=(JF e1).symm.trans g2;rw [IC] at hb;rcases hb with hb | ⟨k',o2,p2,q1,q2,q3,q4⟩
  ·exact (HR.cel k o' p b e2 hp g3).2.1 hb
  ·refine HR.dis k k' o' o2 p p2 b ?_ e2 q2 hp q3 g3 q4;rintro rfl;rw [Vw hn e1] at q1;cases q1
 have H0:Bb P Γ N0 h ρ0 w:=by
  refine ⟨by rw [dK,hl],fun i o hi=>?_,fun i o p b g1 g2 g3=>?_,fun i i' o1 o2 p1 p2 b Ap g1 g2 g3 g4 g5 g6=>?_,fun b hb=>HR.lt2 (Wa b (.inl hb)),HR.gi⟩
  ·obtain ⟨k,o',e1,e2,e3⟩:=L8 hi;obtain ⟨p,hp,hr⟩:=HR.obj k o' e2;exact ⟨p,(JF e1).trans hp,wG Wa dn e3 hr⟩
  ·obtain ⟨k,o',e1,e2,e3⟩:=L8 g1;obtain ⟨q1,q2,q3⟩:=HR.cel k o' p b e2 ((JF e1).symm.trans g2) g3;exact ⟨q1,fun hb=>foreign hb ⟨i,o,p,g1,g2,g3⟩,q3⟩
  ·obtain ⟨k,o',e1,e2,e3⟩:=L8 g1;obtain ⟨k',ow,YV,YU,e3'⟩:=L8 g2;refine HR.dis k k' o' ow p1 p2 b ?_ e2 YU ((JF e1).symm.trans g3) ((JF YV).symm.trans g4) g5 g6;rintro rfl;have a1:=Vw hn e1;have a2:=Vw hn YV;exact Ap (yY (a1.symm.trans a2))
 refine (Ei.2 N0 ρ0 w args H0 ⟨by rw [←Ci.1];simp,fun i hi=>?_⟩).mono ?_
 ·have:=Ci.2 i (by simpa using hi);have e:(ds.map (up σ H.length)).getD i .any=up σ H.length (ds.getD i .any):=by simp [hi]
  rw [e] at this;exact gK Wa dn _ this
 ·rintro e w' ⟨v,rfl,⟨⟨ρ1,g1,g2,g3,g4⟩,g5⟩⟩;have l1:ρ1.length=h'.length:=g1.len;obtain ⟨ρ',Js⟩: ∃ ρ',ρ'=ρ++ρ1.drop σ.length:=⟨_,rfl⟩
  have iR: ∀ {i k:Nat},σ[i]? =some k -> ρ1[i]? =ρ[k]? :=fun {i k} hk=>by
   have EP:i<ρ0.length:=by rw [dK];exact (yZ.1 hk).1
   have:=g4 i ρ0[i] (by simp [EP]);rw [this,←JF hk];simp [EP]
  have GK: ∀ {k:Nat},k<H.length -> ρ'[k]? =ρ[k]? :=fun {k} hk=>by rw [Js,yy (by rw [HR.len];exact hk)]
  have ZZ: ∀ (k:Nat) (p:AN),ρ1[k]? =some p -> ρ'[Ew σ H.length k]? =some p:=fun k p hp=>by
   by_cases hk:k<σ.length
   ·obtain ⟨k',e1,e2⟩:=R7 hk;rw [e2,GK (AU k' (zX e1)),←iR e1];exact hp
   ·unfold Ew;rw [yb hk,Js,zC (by rw [HR.len];omega),zAc,HR.len];rw [show σ.length+(H.length+(k-σ.length)-H.length)=k by omega];exact hp
  have qK:(Em H σ h').length=H.length+(h'.length-σ.length):=by simp [Em]
  have Ll: ∀ {k:Nat} {o':DO},(Em H σ h')[k]? =some (some o') -> (k<H.length/\ De σ k=none/\ H[k]? =some (some o')/\ ρ'[k]? =ρ[k]?)∨∃ i o,h'[i]? =some (some o)/\ EI σ H.length (some o)=some o'/\ ρ'[k]? =ρ1[i]? /\ k=Ew σ H.length i:=by
   intro k o' hk
   by_cases CV:k<H.length
   ·unfold Em at hk;rw [yy (by simpa using CV),y9,zA1 CV] at hk;simp only [zD,ze] at hk;split at hk
    ·rename_i i hi;have Ty:=Jd hi;obtain ⟨o0,e0⟩:=VF hk;have EP:i<h'.length:=yc (by rw [←hl];exact (yZ.1 Ty).1) EA;rw [e0] at hk;refine .inr ⟨i,o0,?_,hk,?_,?_⟩
     ·rw [yQ EP];rw [u8,yQ EP] at e0;exact congrArg some e0
     ·rw [GK CV,iR Ty]
     ·obtain ⟨k2,e1,e2⟩:=R7 (yZ.1 Ty).1;rw [e2];exact yY (Ty.symm.trans e1)
    ·rename_i hi;refine .inl ⟨CV,hi,?_,GK CV⟩;rw [yQ CV];rw [u8,yQ CV] at hk;exact congrArg some hk
   ·unfold Em at hk;rw [zC (by simp;omega),y9,zAc] at hk;simp only [zf,zAl] at hk;cases hx:h'[σ.length+(k-H.length)]? with
    | none=>rw [hx] at hk;cases hk
    | some x=>
     rw [hx] at hk;have hk:EI σ H.length x=some o':=yY hk;obtain ⟨o0,e0⟩:=VF hk;subst e0;refine .inr ⟨σ.length+(k-H.length),o0,hx,hk,?_,?_⟩
     ·rw [Js,zC (by rw [HR.len];omega),zAc,HR.len]
     ·unfold Ew;rw [yb (by omega)];omega
  have back: ∀ {k:Nat} {o:DO},De σ k=none -> H[k]? =some (some o) -> (Em H σ h')[k]? =some (some o):=by
   intro k o hk ho;have CV:=(yZ.1 ho).1;unfold Em;rw [yy (by simpa using CV),y9,zA1 CV];simp only [zD,hk,fW ho]
  have cj: ∀ b,MS N (Em H σ h') ρ' b -> MS N0 h' ρ1 b:=by
   rintro b (hb | ⟨k,o',p,q1,q2,q3⟩)
   ·exact .inl (by rw [IC];exact .inl hb)
   ·rcases Ll q1 with ⟨a1,a2,a3,a4⟩ | ⟨i,o,a1,a2,a3,a4⟩
    ·exact .inl (by rw [IC];exact .inr ⟨k,o',p,a2,a3,a4.symm.trans q2,q3⟩)
    ·exact .inr ⟨i,o,p,a1,a3.symm.trans q2,q3⟩
  have grow: ∀ b,MO (Em H σ h') ρ' b -> MO H ρ b∨w.heap.size<=b:=by
   rintro b ⟨k,o',p,q1,q2,q3⟩;rcases Ll q1 with ⟨a1,a2,a3,a4⟩ | ⟨i,o,a1,a2,a3,a4⟩
   ·exact .inl ⟨k,o',p,a3,a4.symm.trans q2,q3⟩
   ·exact (g3.grow b ⟨i,o,p,a1,a3.symm.trans q2,q3⟩).imp (P4 b) id
  have pl: ∀ (k:Nat) (p:AN),ρ[k]? =some p -> ρ'[k]? =some p:=fun k p hp=>by
   rw [Js,yy (yZ.1 hp).1];exact hp
  have O:Bi (MS N H ρ) w ρ (MS N (Em H σ h') ρ') w' ρ':=
   ⟨fun b hb hm _=>g3.upd.block b hb fun hx=>hm (.inr (P4 b hx)),fun b hb=>hb.elim (fun hb=>.inl (.inl hb)) (fun hb=>(grow b hb).imp .inr id),pl⟩
  refine ⟨v,rfl,⟨⟨ρ',⟨?_,fun k o' hk=>?_,fun k o' p b q1 q2 q3=>?_,fun k k' o1 o2 p1 p2 b Ap q1 q2 q3 q4 q5 q6=>?_,fun b hb=>⟨yc (HR.nlt b hb).1 g3.upd.size,(HR.nlt b hb).2⟩,g1.gi⟩,Za cj ZZ _ g2,⟨g3.upd.mono fun b _ hb=>P4 b hb,grow⟩,pl⟩,g5⟩,g3.upd.mono fun b _ ⟨i,o,p,q1,q2,q3⟩=>?_⟩
  ·rw [qK,Js];simp [HR.len,l1]
  ·rcases Ll hk with ⟨a1,a2,a3,a4⟩ | ⟨i,o,a1,a2,a3,a4⟩
   ·obtain ⟨p,hp,hr⟩:=HR.obj k o' a3;refine ⟨p,a4.trans hp,hr.out O g3.upd (fun b hb=>.inr (P4 b hb)) fun b _ hf hs=>?_⟩;exact foreign (by rw [IC];exact .inr ⟨k,o',p,a2,a3,hp,hf⟩) hs
   ·obtain ⟨p,hp,hr⟩:=g1.obj i o a1;exact ⟨p,a3.trans hp,jI cj ZZ a2 hr⟩
  ·rcases Ll q1 with ⟨a1,a2,a3,a4⟩ | ⟨i,o,a1,a2,a3,a4⟩
   ·have hp:=a4.symm.trans q2;obtain ⟨c1,c2,c,t,z,c3⟩:=HR.cel k o' p b a3 hp q3;refine ⟨c1,c2,c,t,z,(g3.upd.block b (yR.1 c3).1 fun hx=>?_).trans c3⟩;exact foreign (by rw [IC];exact .inr ⟨k,o',p,a2,a3,hp,q3⟩) hx
   ·obtain ⟨c1,c2,c3⟩:=g1.cel i o p b a1 (a3.symm.trans q2) q3;exact ⟨c1,fun hb=>c2 (by rw [IC];exact .inl hb),c3⟩
  ·rcases Ll q1 with ⟨a1,a2,a3,a4⟩ | ⟨i,o,a1,a2,a3,a4⟩
   ·rcases Ll q2 with ⟨c1,c2,c3,c4⟩ | ⟨i',o',c1,c2,c3,c4⟩
    ·exact HR.dis k k' o1 o2 p1 p2 b Ap a3 c3 (a4.symm.trans q3) (c4.symm.trans q4) q5 q6
    ·exact (g1.cel i' o' p2 b c1 (c3.symm.trans q4) q6).2.1 (by rw [IC];exact .inr ⟨k,o1,p1,a2,a3,a4.symm.trans q3,q5⟩)
   ·rcases Ll q2 with ⟨c1,c2,c3,c4⟩ | ⟨i',o',c1,c2,c3,c4⟩
    ·exact (g1.cel i o p1 b a1 (a3.symm.trans q3) q5).2.1 (by rw [IC];exact .inr ⟨k',o2,p2,c2,c3,c4.symm.trans q4,q6⟩)
    ·refine g1.dis i i' o o' p1 p2 b ?_ a1 c1 (a3.symm.trans q3) (c3.symm.trans q4) q5 q6;rintro rfl;exact Ap (a4.trans c4.symm)
  ·obtain ⟨k,o',e1,e2,_⟩:=L8 q1;exact ⟨k,o',p,zX e1,e2,(JF e1).symm.trans q2,q3⟩
theorem ES.embed {f:Nat} {ds:List DV} {h:DH} {d:DV} {h':DH} {ext:Bool} (Ei:ES P Γ f ds h d h' ext) (σ:List Nat) (H:DH) (hn:σ.Nodup) (AU: ∀ k∈σ,k<H.length) (hl:σ.length=h.length) (EA:h.length<=h'.length)
 (hh:(σ.map fun k=>H.getD k none)=h.map (EI σ H.length)):ES P Γ f (ds.map (up σ H.length)) H (up σ H.length d) (Em H σ h') ext:=
 let ⟨h1,h2⟩:=Ei.embedX σ H hn AU hl EA hh
 ⟨h1,fun N ρ w args HR ha=>(h2 N ρ w args HR ha).mono fun _ _ ⟨v,e,g,_⟩=>⟨v,e,g⟩⟩
def LO (σ:List Nat) (n l l':Nat):Bool:=decide σ.Nodup&&σ.all (fun k=>decide (k<n))&&decide (σ.length=l)&&decide (l<=l')
theorem ES.embedB {f:Nat} {ds:List DV} {h:DH} {d:DV} {h':DH} {ext:Bool} (Ei:ES P Γ f ds h d h' ext) (σ:List Nat) (H:DH) (hb:LO σ H.length h.length h'.length=true) (hh:(σ.map fun k=>H.getD k none)=h.map (EI σ H.length))
 {UT:List DV} {d1:DV} {H1:DH} (e:(ds.map (up σ H.length),up σ H.length d,Em H σ h')=(UT,d1,H1)):ES P Γ f UT H d1 H1 ext:=by
 simp only [LO,yT,y8,ya] at hb;cases e;exact Ei.embed σ H hb.1.1.1 (fun k hk=>hb.1.1.2 k hk) hb.1.2 hb.2 hh
theorem ES.embedU {f:Nat} {ds:List DV} {h:DH} {d:DV} {h':DH} {ext:Bool} (Ei:ES P Γ f ds h d h' ext) (σ:List Nat) (H:DH) (k:Nat) (hb:LO σ H.length h.length h'.length=true) (hk:σ.all (fun j=>Nat.ble k j)=true) (hh:(σ.map fun k=>H.getD k none)=h.map (EI σ H.length)):ND P Γ f (ds.map (up σ H.length)) H (up σ H.length d) (Em H σ h') k:=by
 simp only [LO,yT,y8,ya] at hb;obtain ⟨h1,h2⟩:=Ei.embedX σ H hb.1.1.1 (fun k hk=>hb.1.1.2 k hk) hb.1.2 hb.2 hh;refine ⟨h1,fun N ρ w args HR ha=>(h2 N ρ w args HR ha).mono ?_⟩;rintro e w' ⟨v,e,⟨g1,g2⟩,hu⟩;exact ⟨v,e,⟨g1,fun h=>by cases h⟩,hu.mono fun b _ ⟨i,o,p,q1,q2⟩=>⟨i,o,p,zV (ya.1 hk i q1),q2⟩⟩
end
end Go.Proofs.YtgkhhfnhacibcaaGreatDoor
namespace Go.Proofs.YtgkhhfnhacibcaaGreatDoor
abbrev zF:=@List.drop_eq_getElem_cons
abbrev zx:=@of_decide_eq_true
end Go.Proofs.YtgkhhfnhacibcaaGreatDoor
namespace Go.Proofs.YtgkhhfnhacibcaaGreatDoor
open Go.RowKit
section
variable {P:Program} {Γ:A9}
theorem Bb.foreign {N1 N2 G:Nat -> Prop} {h:DH} {ρ:List AN} {A B:World} (H:Bb P Γ N1 h ρ A) (hu:AQ G A B) (hG: ∀ b,G b -> N1 b/\ Γ.ng<=b) (hN: ∀ b,N2 b -> N1 b∨A.heap.size<=b) (hb: ∀ b,N2 b -> b<B.heap.size/\ Γ.ng<=b):Bb P Γ N2 h ρ B:=by
 have O:Bi (MS N1 h ρ) A ρ (MS N2 h ρ) B ρ:=⟨fun b AU hm _=>hu.block b AU fun hx=>hm (.inl (hG b hx).1),fun b hb=>hb.elim (fun h=>(hN b h).imp .inl id) (fun h=>.inl (.inr h)),fun _ _ h=>h⟩;refine ⟨H.len,fun k o hk=>?_,fun k o p b h1 h2 h3=>?_,H.dis,hb,Γ.st _ _ H.gi (hu.mono fun i _ hx=>(hG i hx).2)⟩
 ·obtain ⟨p,hp,hr⟩:=H.obj k o hk;exact ⟨p,hp,hr.out O hu (fun b hb=>.inl (hG b hb).1) fun b _ hf hs=>(H.cel k o p b hk hp hf).2.1 (hG b hs).1⟩
 ·obtain ⟨c1,c2,c,t,z,c3⟩:=H.cel k o p b h1 h2 h3;have AU:=(yR.1 c3).1;exact ⟨c1,fun hn=>(hN b hn).elim c2 (by omega),c,t,z,(hu.block b AU fun hx=>c2 (hG b hx).1).trans c3⟩
theorem Bi.foreign {N1 N2 G:Nat -> Prop} {h:DH} {ρ:List AN} {A B:World} (hu:AQ G A B) (hG: ∀ b,G b -> N1 b/\ Γ.ng<=b) (hN: ∀ b,N2 b -> N1 b∨A.heap.size<=b):Bi (MS N1 h ρ) A ρ (MS N2 h ρ) B ρ:=
 ⟨fun b AU hm _=>hu.block b AU fun hx=>hm (.inl (hG b hx).1),fun b hb=>hb.elim (fun h=>(hN b h).imp .inl id) (fun h=>.inl (.inr h)),fun _ _ h=>h⟩
def JX (fr:List DV) (ps:List Tmp) (x:List Value):List DV:=(ps.zip x).foldl (fun t q=>t.set q.1 (FI q.2)) fr
theorem ae {M:Nat -> Prop} {w:World} {ρ:List AN}: ∀ (l:List (Tmp×Value)) {fr:List DV} {t:Array Value},B8 M w ρ fr t -> B8 M w ρ (l.foldl (fun t q=>t.set q.1 (FI q.2)) fr) (l.foldl (fun t (q:Tmp×Value)=>t.setIfInBounds q.1 q.2) t)
 | [],_,_,h=>h
 | q::l,_,_,h=>ae l (h.set q.1 (Ps _))
def GJ (K:Nat):DV -> Bool
 | .ref k _=>decide (k<K)
 | .msl k _ _ _=>decide (k<K)
 | .mse k _ _ _=>decide (k<K)
 | .mri k _=>decide (k<K)
 | .mp k _ _ _=>decide (k<K)
 | .it k=>decide (k<K)
 | .agg m f=>(List.range m).all fun j=>GJ K (f j)
 | .tup m f=>(List.range m).all fun j=>GJ K (f j)
 | .fn _ m f=>(List.range m).all fun j=>GJ K (f j)
 | _=>true
theorem OM {α:Type} {l:List α} {K k:Nat} {x:α} (hk:k<K) (h:l[k]? =some x):(l.take K)[k]? =some x:=by rw [List.getElem?_take,yP hk];exact h
theorem AO.take {M:Nat -> Prop} {w:World} {K:Nat}: ∀ (d:DV) {ρ:List AN} {v:Value},GJ K d=true -> AO M w d ρ v -> AO M w d (ρ.take K) v:=by
 intro d
 induction d with
 | ref k j=>rintro ρ v hb ⟨p,h,e⟩;exact ⟨p,OM (zx hb) h,e⟩
 | msl k m off n=>rintro ρ v hb ⟨p,cap,h,e⟩;exact ⟨p,cap,OM (zx hb) h,e⟩
 | mp k m i j=>rintro ρ v hb ⟨p,h,e⟩;exact ⟨p,OM (zx hb) h,e⟩
 | it k=>rintro ρ v hb ⟨p,h,e⟩;exact ⟨p,OM (zx hb) h,e⟩
 | agg m f ih=>
  rintro ρ v hb ⟨cs,e,hs,h⟩;exact ⟨cs,e,hs,fun j hj=>let ⟨u,h1,h2⟩:=h j hj;⟨u,h1,ih j (ya.1 hb j (yh.2 hj)) h2⟩⟩
 | tup m f ih=>
  rintro ρ v hb ⟨cs,e,hs,h⟩;exact ⟨cs,e,hs,fun j hj=>let ⟨u,h1,h2⟩:=h j hj;⟨u,h1,ih j (ya.1 hb j (yh.2 hj)) h2⟩⟩
 | fn g m f ih=>
  rintro ρ v hb ⟨cs,e,hs,h⟩;exact ⟨cs,e,hs,fun j hj=>let ⟨u,h1,h2⟩:=h j hj;⟨u,h1,ih j (ya.1 hb j (yh.2 hj)) h2⟩⟩
 | yl l=>rintro ρ v _ h;exact h
 | cst u=>rintro ρ v _ h;exact h
 | mse k m off n=>rintro ρ v hb ⟨p,a,cap,h,e⟩;exact ⟨p,a,cap,OM (zx hb) h,e⟩
 | mri k i=>rintro ρ v hb ⟨p,vs,h,e⟩;exact ⟨p,vs,OM (zx hb) h,e⟩
 | any=>rintro ρ v _ h;trivial
 | nils=>rintro ρ v _ h;exact h
 | int k n=>rintro ρ v _ h;exact h
 | bool b=>rintro ρ v _ h;exact h
 | str s=>rintro ρ v _ h;exact h
 | ints l=>rintro ρ v _ h;exact h
 | bools l=>rintro ρ v _ h;exact h
 | sl m n f=>rintro ρ v _ h;exact h
 | fp m f=>rintro ρ v _ h;exact h
theorem B8.take {M:Nat -> Prop} {w:World} {K:Nat} {ρ:List AN} {fr:List DV} {t:Array Value} (h:B8 M w ρ fr t) (hb:fr.all (GJ K)=true):B8 M w (ρ.take K) fr t:=by
 refine ⟨h.1,fun i hi=>AO.take _ ?_ (h.2 i hi)⟩;have:fr.getD i .any∈fr:=by simp [u8,hi]
 exact ya.1 hb _ this
structure RI (K:Nat) (P:Program) (Γ:A9) (N:Nat -> Prop) (h0:DH) (ρ0:List AN) (w0:World) (G:Nat -> Prop) (W:World) (h:DH) (ρ:List AN):Prop where
 hr:Bb P Γ (fun b=>N b∨G b) h ρ W
 upd:AQ (MO h0 ρ0) w0 W
 grow: ∀ b,MO h ρ b -> MO h0 ρ0 b∨w0.heap.size<=b
 g: ∀ b,G b -> Γ.ng<=b/\ (MO h0 ρ0 b∨w0.heap.size<=b)
 kept:EH K ρ0 ρ
theorem RI.stable {K:Nat} {N:Nat -> Prop} {h0:DH} {ρ0:List AN} {w0:World} (GP:Γ.ng<=w0.heap.size) {G G':Nat -> Prop} {A B:World} {h:DH} {ρ:List AN} (R:RI K P Γ N h0 ρ0 w0 G A h ρ) (hu:AQ G A B) (hg: ∀ k,G' k -> G k∨A.heap.size<=k) (hb: ∀ k,G' k -> k<B.heap.size):RI K P Γ N h0 ρ0 w0 G' B h ρ:=by
 have hs:w0.heap.size<=A.heap.size:=R.upd.size;refine ⟨R.hr.foreign hu (fun b hx=>⟨.inr hx,(R.g b hx).1⟩) (fun b hx=>?_) (fun b hx=>?_),R.upd.comp hu fun i hi hx=>(R.g i hx).2.resolve_right (by omega),R.grow,fun b hx=>?_,R.kept⟩
 ·rcases hx with hx | hx
  ·exact .inl (.inl hx)
  ·exact (hg b hx).imp .inr id
 ·rcases hx with hx | hx
  ·exact ⟨yc (R.hr.nlt b (.inl hx)).1 hu.size,(R.hr.nlt b (.inl hx)).2⟩
  ·exact ⟨hb b hx,(hg b hx).elim (fun h=>(R.g b h).1) (fun h=>by omega)⟩
 ·rcases hg b hx with hx | hx
  ·exact R.g b hx
  ·exact ⟨by omega,.inr (by omega)⟩
theorem RI.outl {K:Nat} {N:Nat -> Prop} {h0:DH} {ρ0:List AN} {w0:World} {G:Nat -> Prop} {W:World} {h:DH} {ρ:List AN} (R:RI K P Γ N h0 ρ0 w0 G W h ρ):Bi (MS N h0 ρ0) w0 (ρ0.take K) (MS (fun b=>N b∨G b) h ρ) W ρ:=
 ⟨fun b AU hm _=>R.upd.block b AU fun hx=>hm (.inr hx),fun b hb=>by
  rcases hb with (hb | hb) | hb
  ·exact .inl (.inl hb)
  ·exact (R.g b hb).2.imp .inr id
  ·exact (R.grow b hb).imp .inr id,fun k p hk=>by
  rw [List.getElem?_take] at hk
  by_cases e:k<K
  ·rw [yP e] at hk;exact R.kept k p e hk
  ·rw [yb e] at hk;cases hk⟩
def J8:Exit -> Option Code
 | .ret=>some .ret
 | .exit id=>some (.exit id)
 | _=>none
def ZI (L:Nat) (J:DH -> Prop) (Jx:Exit -> DH -> Prop) (e:Exit) (S:St):Prop:=∃ S3,BW L S S3/\ ((e= .normal/\ J S3.h)∨((J8 e).isSome=true/\ Jx e S3.h))
def iq (P:Program) (Γ:A9) (fr:List DV) (ps:List Tmp) (assign body:Code) (L:Nat) (J:Nat -> DH -> Prop) (Jx:Exit -> DH -> Prop) (encs:List (Array Value)):Prop:=
 ∀ (l B:Nat) (Y:Bg P Γ L) (i:Nat) (x:Array Value) (h:DH),encs[i]? =some x -> J i h ->
  Tr P Γ (Fence.wide.inRound l) (some B) L Y assign ⟨JX fr ps x.toList,h⟩ (Oy (fun S' Y'=>Y'=Y/\ ∀ Y2:Bg P Γ L,Tr P Γ (Fence.wide.inRound l) (some B) L Y2 body S' (stay Y2 (ZI L (J (i+1)) Jx))) (fun _ _ _=>False))
theorem ba {N:Nat -> Prop} {S:St} {ρ:List AN} {a:Act} {w:World} (R:Ad P Γ N S ρ a w) {ps:Array Tmp} {assign body:Code} {encs:List (Array Value)} {J:Nat -> DH -> Prop} {Jx:Exit -> DH -> Prop} {Rd:Nat -> Prop} {l KK:Nat} (Di:S.fr.all (GJ KK)=true)
 (I7: ∀ b,Rd b -> ¬ MS N S.h ρ b/\ b<w.heap.size) (DU:iq P Γ S.fr ps.toList assign body KK J Jx encs)
 (G:Nat -> Prop) (i:Nat) (x:Array Value) (W:World) (hx:encs[i]? =some x) (hI: ∃ h ρ',J i h/\ RI KK P Γ N S.h ρ w G W h ρ') (hl: ∃ r,W.heap[l]? =some (.loop r)) (DB:G l):
 assign.wpIn (Fence.wide.inRound l) 0 P (Exit.then (fun a₁ W₁=>∃ K:(Nat -> Prop) -> World -> Prop,Eo K/\ AQ (fun k=>¬ (G k∨Rd k)) W W₁/\ K G W₁/\ ∀ W₂,K G W₂ -> (∃ r,W₂.heap[l]? =some (.loop r)) ->
  body.wpIn (Fence.wide.inRound l) 0 P (SK (fun k=>G k∨Rd k) (fun W'=>∃ h ρ',J (i+1) h/\ RI KK P Γ N S.h ρ w G W' h ρ') (fun c W'=>∃ e,J8 e=some c/\ ∃ h ρ',Jx e h/\ RI KK P Γ N S.h ρ w G W' h ρ') W₂) a₁ W₂) (fun _ _ _=>False)) { tmps:=(ps.zip x).foldl (fun t (p,v)=>t.setIfInBounds p v) a.tmps,defers:=[] } W:=by
 obtain ⟨h,ρ1,hJ,hR⟩:=hI;have GP:Γ.ng<=w.heap.size:=Γ.lo _ R.hr.gi
 have UF:B8 (MS (fun b=>N b∨G b) h ρ1) W ρ1 (JX S.fr ps.toList x.toList) ((ps.zip x).foldl (fun t (p,v)=>t.setIfInBounds p v) a.tmps):=by
  have:=ae (ps.zip x).toList ((R.fr.take Di).out hR.outl);rw [Array.toList_zip] at this;rw [←Array.foldl_toList,Array.toList_zip];exact this
 have off: ∀ {G:Nat -> Prop} {W:World} {h:DH} {ρ1:List AN},RI KK P Γ N S.h ρ w G W h ρ1 -> ∀ b,MO h ρ1 b -> ¬ (G b∨Rd b):=by
  rintro G W h ρ1 hR b hm (hg | hd)
  ·obtain ⟨k,o,p,q1,q2,q3⟩:=hm;exact (hR.hr.cel k o p b q1 q2 q3).2.1 (.inr hg)
  ·rcases hR.grow b hm with hm | hm
   ·exact (I7 b hd).1 (.inr hm)
   ·have:=(I7 b hd).2;omega
 have step: ∀ {G:Nat -> Prop} {W W':World} {h h':DH} {ρ1 ρ2:List AN},RI KK P Γ N S.h ρ w G W h ρ1 -> Bb P Γ (fun b=>N b∨G b) h' ρ2 W' -> BO h ρ1 W h' ρ2 W' -> EH KK ρ1 ρ2 -> RI KK P Γ N S.h ρ w G W' h' ρ2:=by
  intro G W W' h h' ρ1 ρ2 hR Cz st hk;have hs:=hR.upd.size;exact ⟨Cz,hR.upd.comp st.upd fun b hb hm=>(hR.grow b hm).resolve_right (by omega),fun b hb=>(st.grow b hb).elim (hR.grow b) fun h=>.inr (by omega),hR.g,hR.kept.trans hk⟩
 have bd:Bd (Fence.wide.inRound l) (some W.heap.size) W:=⟨fun b e=>by cases e;exact ym _,fun l' e=>by cases e;exact hl⟩;refine zAY (DU l W.heap.size (O5 P Γ KK (fun b=>N b∨G b) h ρ1 W) i x h hx hJ _ ρ1 _ W ⟨hR.hr,UF⟩ ⟨rfl,BO.refl _ _ _,EH.refl _ _⟩ trivial bd) ?_;rintro e a1 W1 ⟨S',ρ2,N2,Y2,h1,h2,h3,h4,_⟩;cases e with
 | normal=>
  obtain ⟨rfl,h1⟩:=h1;obtain ⟨rfl,h3,h5⟩:=h3;refine ⟨fun G' W'=>RI KK P Γ N S.h ρ w G' W' S'.h ρ2/\ B8 (MS (fun b=>N b∨G' b) S'.h ρ2) W' ρ2 S'.fr a1.tmps/\ EG W.heap.size a1.defers W'/\ W1.heap.size<=W'.heap.size/\ (∀ b,G' b -> b<W.heap.size∨W1.heap.size<=b)/\ (∀ d∈a1.defers,∀ D,d.target= .collected D -> D<W1.heap.size),?_,h3.upd.mono fun b _ hm=>off hR b hm,⟨step hR h2.hr h3 h5,h2.fr,h4,ym _,fun b hg=>.inl (hR.hr.nlt b (.inr hg)).1,fun d hd D ht=>EG.lt h4 hd ht⟩,?_⟩
  ·rintro G1 G2 A C ⟨q1,q2,q3,q4,q5,q6⟩ hu hg hb;have uw:=q1.stable GP hu hg hb;refine ⟨uw,q2.out (Bi.foreign (Γ:=Γ) hu (fun b hx=>⟨.inr hx,(q1.g b hx).1⟩) fun b hx=>?_),?_,yf q4 hu.size,fun b hx=>(hg b hx).elim (q5 b) (fun h=>.inr (by omega)),q6⟩
   ·rcases hx with hx | hx
    ·exact .inl (.inl hx)
    ·exact (hg b hx).imp .inr id
   ·have go: ∀ {ds:List Deferred},EG W.heap.size ds A -> (∀ d∈ds,∀ D,d.target= .collected D -> D<W1.heap.size) -> EG W.heap.size ds C:=by
     intro ds
     induction ds with
     | nil=>intros;trivial
     | cons d ds ih=>
      rintro ⟨D,r1,r2,r3,r4,r5⟩ AU;have hD:D<W1.heap.size:=AU d (by simp) D (by rw [r1]);refine ⟨D,r1,r2,(hu.block D (yR.1 r3).1 fun hx=>?_).trans r3,r4,ih r5 fun d' OH=>AU d' (by simp [OH])⟩;rcases q5 D hx with h | h <;> omega
    exact go q3 q6
  ·rintro W2 ⟨q1,q2,q3,q4,q5,q6⟩ CU;have xU:Bd (Fence.wide.inRound l) (some W.heap.size) W2:=⟨fun b e=>by cases e;exact yf h3.upd.size q4,fun l' e=>by cases e;exact CU⟩;refine zAY (h1 (O5 P Γ KK (fun b=>N b∨G b) S'.h ρ2 W2) _ ρ2 a1 W2 ⟨q1.hr,q2⟩ ⟨rfl,BO.refl _ _ _,EH.refl _ _⟩ q3 xU) ?_;rintro e a3 W3 ⟨S3,ρ3,N3,Y3,r1,r2,r3,r4,_⟩
   have out: ∀ e,(O5 P Γ KK (fun b=>N b∨G b) S'.h ρ2 W2).I N3 S3.h ρ3 W3 -> ZI KK (J (i+1)) Jx e S3 -> AQ (fun k=>¬ (G k∨Rd k)) W2 W3/\ ((e= .normal/\ ∃ h ρ',J (i+1) h/\ RI KK P Γ N S.h ρ w G W3 h ρ')∨((J8 e).isSome=true/\ ∃ h ρ',Jx e h/\ RI KK P Γ N S.h ρ w G W3 h ρ')):=by
    rintro e r0 ⟨S4,CR,u7⟩;obtain ⟨rfl,r3,r5⟩:=r0;obtain ⟨ρ4,R4,s4,k4⟩:=CR P Γ _ ρ3 a3 W3 r2;have d8:=step q1 R4.hr (r3.trans s4) (r5.trans k4);exact ⟨r3.upd.mono fun b _ hm=>off q1 b hm,u7.imp (fun ⟨x,y⟩=>⟨x,S4.h,ρ4,y,d8⟩) (fun ⟨x,y⟩=>⟨x,S4.h,ρ4,y,d8⟩)⟩
   cases e with
   | normal=>
    obtain ⟨rfl,r1⟩:=r1;obtain ⟨o1,o2⟩:=out _ r3 r1;rcases o2 with ⟨_,o2⟩ | ⟨o2,_⟩
    ·exact ⟨o1,o2⟩
    ·cases o2
   | ret=>
    obtain ⟨rfl,r1⟩:=r1;obtain ⟨o1,o2⟩:=out _ r3 r1;rcases o2 with ⟨o2,_⟩ | ⟨_,o2⟩
    ·cases o2
    ·exact ⟨o1,.ret,rfl,o2⟩
   | exit id=>
    obtain ⟨rfl,r1⟩:=r1;obtain ⟨o1,o2⟩:=out _ r3 r1;rcases o2 with ⟨o2,_⟩ | ⟨_,o2⟩
    ·cases o2
    ·exact ⟨o1,.exit id,rfl,o2⟩
   | goto t=>
    obtain ⟨rfl,r1⟩:=r1;obtain ⟨o1,o2⟩:=out _ r3 r1;rcases o2 with ⟨o2,_⟩ | ⟨o2,_⟩ <;> cases o2
   | panic c=>exact r1.elim
   | outgrown=>exact r1.elim
 | ret=>exact h1.elim
 | exit id=>exact h1.elim
 | goto t=>exact h1.elim
 | panic c=>exact h1.elim
 | outgrown=>exact h1.elim
theorem Tr.range {F:Fence} (ID:F=Fence.wide∨∃ l,F=Fence.wide.inRound l) {B L:Nat} {Y:Bg P Γ L} {S:St} {g:Operand} {ps:Array Tmp} {assign body:Code} {Q:QY P Γ L} {k:Nat} {encs:List (Array Value)} (J:Nat -> DH -> Prop) (Jx:Exit -> DH -> Prop)
 (hg:Ac S.fr g= .it k) (hk:S.h[k]? =some (some (.iter encs))) (Du: ∀ x∈encs,x.size=ps.size) {KK:Nat} (hL:L<=KK) (Di:S.fr.all (GJ KK)=true) (h0:J 0 (S.h.set k none))
 (DU:iq P Γ S.fr ps.toList assign body KK J Jx encs) (EB: ∀ h,J encs.length h -> Q .normal ⟨S.fr,h⟩ Y) (Nx: ∀ e h,(J8 e).isSome=true -> Jx e h -> Q e ⟨S.fr,h⟩ Y):Tr P Γ F (some B) L Y (.rangeFunc g ps assign body) S Q:=fun N ρ a w R y m b=>by
 have hx:=Bm R g;rw [hg] at hx;obtain ⟨p,hp,hv⟩:=hx;obtain ⟨p',BJ,gf,lb,Rd,⟨e1,e2⟩,q2,q3,q4⟩:=R.hr.obj k _ hk;have ep:p'=p:=yY (BJ.symm.trans hp);subst ep;have eh:a.eval g= .func (.func gf) #[] lb:=hv.trans e1;have GP:Γ.ng<=w.heap.size:=Γ.lo _ R.hr.gi;have fO: ∀ b,p'.foot b -> MO S.h ρ b:=fun b hb=>⟨k,_,p',hk,hp,hb⟩
 have fP: ∃ h ρ',J 0 h/\ RI KK P Γ N S.h ρ w p'.foot w h ρ':=by
  refine ⟨S.h.set k none,ρ,h0,?_,AQ.refl _ _,fun b hb=>.inl (MO.kill hb),fun b hb=>⟨(R.hr.cel k _ p' b hk hp hb).1,.inl (fO b hb)⟩,EH.refl _ _⟩;have H1:Bb P Γ N (S.h.set k none) ρ w:=R.hr.kill k
  have K4: ∀ b,MS (fun b=>N b∨p'.foot b) (S.h.set k none) ρ b -> MS N S.h ρ b:=fun b hb=>by
   rcases hb with (hb | hb) | hb
   ·exact .inl hb
   ·exact .inr (fO b hb)
   ·exact .inr (MO.kill hb)
  refine ⟨H1.len,fun i o hi=>?_,fun i o p2 b g1 g2 g3=>?_,H1.dis,fun b hb=>hb.elim (R.hr.nlt b) fun h=>⟨q4 b h,(R.hr.cel k _ p' b hk hp h).1⟩,R.hr.gi⟩
  ·obtain ⟨Ap,BN⟩:=Fk hi;obtain ⟨p2,Ma,hr⟩:=R.hr.obj i o BN;exact ⟨p2,Ma,hr.out (DR K4 ρ) (S:=fun _=>False) (AQ.refl _ _) (fun _ h=>h.elim) fun _ _ _ h=>h⟩
  ·obtain ⟨Ap,BN⟩:=Fk g1;obtain ⟨c1,c2,c3⟩:=R.hr.cel i o p2 b BN g2 g3;exact ⟨c1,fun hb=>hb.elim c2 fun hb=>R.hr.dis i k o _ p2 p' b Ap BN hk g2 hp g3 hb,c3⟩
 have D9: ∀ i,Eo (fun G W=>∃ h ρ',J i h/\ RI KK P Γ N S.h ρ w G W h ρ'):=fun i G G' A C ⟨h,ρ',h1,h2⟩ hu Xr hb=>⟨h,ρ',h1,h2.stable GP hu Xr hb⟩
 have fin: ∀ {G:Nat -> Prop} {W:World} {h:DH} {ρ':List AN},RI KK P Γ N S.h ρ w G W h ρ' -> Bb P Γ N h ρ' W:=fun {G W h ρ'} hR=>
  hR.hr.foreign (G:=fun _=>False) (AQ.refl _ _) (fun _ h=>h.elim) (fun b hb=>.inl (.inl hb)) fun b hb=>hR.hr.nlt b (.inl hb)
 have OQ: ∀ {G:Nat -> Prop} {W:World} {h:DH} {ρ':List AN},RI KK P Γ N S.h ρ w G W h ρ' -> B8 (MS N h ρ') W ρ' S.fr a.tmps:=fun {G W h ρ'} hR=>
  ((R.fr.take Di).out hR.outl).out (DR (fun b hb=>hb.imp .inl id) ρ')
 have FW: ∀ {G:Nat -> Prop} {W:World} {h:DH} {ρ':List AN},RI KK P Γ N S.h ρ w G W h ρ' -> BO S.h ρ w h ρ' W:=fun hR=>⟨hR.upd,hR.grow⟩
 have d7: ∀ c,Eo (fun G W=>∃ e,J8 e=some c/\ ∃ h ρ',Jx e h/\ RI KK P Γ N S.h ρ w G W h ρ'):=fun c G G' A C ⟨e,he,h,ρ',h1,h2⟩ hu Xr hb=>⟨e,he,h,ρ',h1,h2.stable GP hu Xr hb⟩
 have kp: ∀ {G:Nat -> Prop} {W:World} {h:DH} {ρ':List AN},RI KK P Γ N S.h ρ w G W h ρ' -> EH L ρ ρ':=fun hR k p hk hp=>hR.kept k p (yc hk hL) hp
 rcases ID with rfl | ⟨l0,rfl⟩
 ·have mk: ∀ {D:Nat} {G:Nat -> Prop} {W:World} {h:DH} {ρ':List AN},RI KK P Γ N S.h ρ w G W h ρ' -> W.heap[D]? =some (.deferred (some [])) -> w.heap.size<=D -> EG B ({ target:=.collected D,args:=#[] }::a.defers) W:=fun {D G W h ρ'} hR hD Nv=>
   ⟨D,rfl,yf (b.le _ rfl) Nv,hD,fun d' OH ht=>by have:=EG.lt m OH ht;omega,P5 R.hr (FW hR) m⟩
  refine i8 eh e2 q2 (fun b hb=>q4 b hb) (fun b hb=>(q3 b hb).2) Du _ _ D9 d7 fP (fun l G i x W hx hI hl DB=>ba R Di q3 DU G i x W hx hI hl DB) ?_ ?_
  ·rintro D G W ⟨h,ρ',h1,hR⟩ hD vB Nv;exact ⟨⟨S.fr,h⟩,ρ',N,Y,EB h h1,⟨fin hR,OQ hR⟩,Y.st y R.hr (fin hR) (FW hR) (kp hR),mk hR hD Nv,b.step R.hr (FW hR)⟩
  ·rintro D c G W ⟨e,he,h,ρ',h1,hR⟩ hD vB Nv;have hq:=Nx e h (by rw [he];rfl) h1;cases e with
   | ret=>cases he;exact wpIn_ret ⟨⟨S.fr,h⟩,ρ',N,Y,hq,⟨fin hR,OQ hR⟩,Y.st y R.hr (fin hR) (FW hR) (kp hR),mk hR hD Nv,b.step R.hr (FW hR)⟩
   | exit id=>cases he;exact wpIn_exit ⟨⟨S.fr,h⟩,ρ',N,Y,hq,⟨fin hR,OQ hR⟩,Y.st y R.hr (fin hR) (FW hR) (kp hR),mk hR hD Nv,b.step R.hr (FW hR)⟩
   | normal=>cases he
   | goto t=>cases he
   | panic c=>cases he
   | outgrown=>cases he
 ·refine i9 eh e2 (b.rd l0 rfl) q2 (fun b hb=>q4 b hb) (fun b hb=>(q3 b hb).2) Du _ _ D9 d7 fP (fun l G i x W hx hI hl DB=>ba R Di q3 DU G i x W hx hI hl DB) ?_ ?_
  ·rintro G W ⟨h,ρ',h1,hR⟩;exact ⟨⟨S.fr,h⟩,ρ',N,Y,EB h h1,⟨fin hR,OQ hR⟩,Y.st y R.hr (fin hR) (FW hR) (kp hR),P5 R.hr (FW hR) m,b.step R.hr (FW hR)⟩
  ·rintro c G W ⟨e,he,h,ρ',h1,hR⟩;have hq:=Nx e h (by rw [he];rfl) h1;cases e with
   | ret=>cases he;exact wpIn_ret ⟨⟨S.fr,h⟩,ρ',N,Y,hq,⟨fin hR,OQ hR⟩,Y.st y R.hr (fin hR) (FW hR) (kp hR),P5 R.hr (FW hR) m,b.step R.hr (FW hR)⟩
   | exit id=>cases he;exact wpIn_exit ⟨⟨S.fr,h⟩,ρ',N,Y,hq,⟨fin hR,OQ hR⟩,Y.st y R.hr (fin hR) (FW hR) (kp hR),P5 R.hr (FW hR) m,b.step R.hr (FW hR)⟩
   | normal=>cases he
   | goto t=>cases he
   | panic c=>cases he
   | outgrown=>cases he
def ET {α σ:Type} (f:α -> σ -> Option (σ×Nat)):List α -> σ -> Option (σ×Nat)
 | [],s=>some (s,0)
 | x::l,s=>(f x s).bind fun r=>bif r.2==0 then ET f l r.1 else some r
def By {α σ:Type} (f:α -> σ -> Option σ):List α -> σ -> Option σ
 | [],s=>some s
 | x::l,s=>(f x s).bind (By f l)
theorem fk {α σ:Type} (f:α -> σ -> Option σ): ∀ (l:List α) (s:σ),ET (fun x s=>(f x s).map fun s'=>(s',0)) l s=(By f l s).map fun s'=>(s',0)
 | [],s=>rfl
 | x::l,s=>by
  simp only [ET,By];cases f x s with
  | none=>rfl
  | some s'=>exact fk f l s'
def Cs (L:Nat) (ex:List Exit) (c:Nat) (h':DH) (e:Exit) (S:St):Prop:=(Exit.normal::ex)[c]? =some e/\ ∃ S3,BW L S S3/\ S3.h=h'
def GB (P:Program) (Γ:A9) (F:Fence) (B:Option Nat) (L:Nat) (N:Bg P Γ L) (Q:Exit -> St -> Prop) (assign body:Code) (S:St):Prop:=
 Tr P Γ F B L N assign S (Oy (fun S' Y'=>Y'=N/\ ∀ N2:Bg P Γ L,BY P Γ F B L N2 Q [.code body] S') (fun _ _ _=>False))
theorem GB.go {F:Fence} {B:Option Nat} {L:Nat} {N:Bg P Γ L} {Q:Exit -> St -> Prop} (hF:Dl F P) (hm:P.follows .mixedOrders=true) {assign body:Code} {S:St} (A6:Bh) (n:Nat) (o:Bw) (live σ:List Nat) (fr:List DV) (h':DH) (vs:List Prop)
 (h:(B2 P Γ A6 n [.code assign] S o).map (Pq live σ L)=some (.at [],fr,h',vs,[],[],true)) (hv:Bl vs) (hk: ∀ N2:Bg P Γ L,BY P Γ F B L N2 Q [.code body] ⟨fr,h'⟩):GB P Γ F B L N Q assign body S:=by
 obtain ⟨S',_,h1,hs⟩:=od h;have T:=E3 (F:=F) (B:=B) (L:=L) (Y:=N) (Q:=fun e S2 Y2=>e= .normal/\ Y2=N/\ ∀ N2:Bg P Γ L,BY P Γ F B L N2 Q [.code body] S2) hF hm n [.code assign] S o _ _ _ _ h1 hv ⟨rfl,rfl,fun N2=>BY.le hs rfl (hk N2)⟩;refine Tr.mono (show Tr P Γ F B L N assign S _ from T) fun e S2 Y2 hq=>?_
 cases e with
 | normal=>exact hq.2
 | ret=>exact absurd hq.1 (by simp)
 | exit id=>exact absurd hq.1 (by simp)
 | goto t=>exact absurd hq.1 (by simp)
 | panic c=>exact absurd hq.1 (by simp)
 | outgrown=>exact absurd hq.1 (by simp)
theorem BY.rangeFold {F:Fence} (ID:F=Fence.wide∨∃ l,F=Fence.wide.inRound l) {B L:Nat} {Y:Bg P Γ L} {Q:QY P Γ L} {S:St} {g:Operand} {ps:Array Tmp} {assign body:Code} {k:List KI} {kk:Nat} {α σ:Type} (ex:List Exit) (I6:(ex.all fun e=>(J8 e).isSome)=true) (enc:α -> Array Value) (l:List α) (H:σ -> DH) (f:α -> σ -> Option (σ×Nat)) {s0:σ} {rE:σ×Nat} (hf:ET f l s0=some rE)
 (hg:Ac S.fr g= .it kk) (hk:S.h[kk]? =some (some (.iter (l.map enc)))) (Du: ∀ x,(enc x).size=ps.size) {K:Nat} (hL:L<=K) (Di:S.fr.all (GJ K)=true) (h0:S.h.set kk none=H s0)
 (DU: ∀ (l B:Nat) (N:Bg P Γ K) (x:α) (s:σ) (r:σ×Nat),f x s=some r -> GB P Γ (Fence.wide.inRound l) (some B) K N (Cs K ex r.2 (H r.1)) assign body ⟨JX S.fr ps.toList (enc x).toList,H s⟩)
 (EB: ∀ e,(Exit.normal::ex)[rE.2]? =some e -> DZ P Γ F (some B) L Q k e ⟨S.fr,H rE.1⟩ Y):A1 P Γ F (some B) L Y Q (.code (.rangeFunc g ps assign body)::k) S:=by
 refine Tr.range (Q:=DZ P Γ F (some B) L Q k) (KK:=K) ID (fun i h=>∃ s,ET f (l.drop i) s=some rE/\ h=H s) (fun e h=>(Exit.normal::ex)[rE.2]? =some e/\ h=H rE.1) hg hk (fun x hx=>?_) hL Di ⟨s0,hf,h0⟩ ?_ ?_ ?_
 ·obtain ⟨y,_,rfl⟩:=zh.1 hx;exact Du y
 ·rintro l' B' N' i x h hx ⟨s,hs,rfl⟩;rw [y9] at hx;cases hy:l[i]? with
  | none=>rw [hy] at hx;cases hx
  | some y=>
   rw [hy] at hx;cases hx;have AU:=(yZ.1 hy).1
   have hd:l.drop i=y::l.drop (i+1):=by
    rw [zF AU]
    congr 1
    exact (yZ.1 hy).2
   rw [hd] at hs;obtain ⟨r,h1,h2⟩:=Ys hs;have T:=DU l' B' N' y s r h1
   have fin: ∀ {e:Exit} {S2:St},Cs K ex r.2 (H r.1) e S2 -> ZI K (fun h=>∃ s,ET f (l.drop (i+1)) s=some rE/\ h=H s) (fun e h=>(Exit.normal::ex)[rE.2]? =some e/\ h=H rE.1) e S2:=by
    rintro e S2 ⟨r1,S3,r2,r3⟩;refine ⟨S3,r2,?_⟩;cases hc:r.2 with
    | zero=>
     rw [hc] at r1 h2;cases r1;exact .inl ⟨rfl,r.1,h2,r3⟩
    | succ c=>
     rw [hc] at r1 h2;cases h2;have:e∈ex:=zX (i:=c) r1;exact .inr ⟨ya.1 I6 e this,by rw [hc];exact r1,r3⟩
   refine Tr.mono T fun e S2 Y2 hq=>?_
   cases e with
   | normal=>exact ⟨hq.1,fun N2=>Tr.mono (show Tr P Γ (Fence.wide.inRound l') (some B') K N2 body S2 (stay N2 (Cs K ex r.2 (H r.1))) from hq.2 N2) fun e S3 Y3 h3=>⟨h3.1,fin h3.2⟩⟩
   | ret=>exact hq.elim
   | exit id=>exact hq.elim
   | goto t=>exact hq.elim
   | panic c=>exact hq.elim
   | outgrown=>exact hq.elim
 ·rintro h ⟨s,hs,rfl⟩;rw [zf,List.drop_length] at hs;cases hs;exact EB .normal rfl
 ·rintro e h he ⟨h1,rfl⟩;exact EB e h1
theorem OU {F:Fence} {B:Option Nat} {L:Nat} {Y:Bg P Γ L} {Q:QY P Γ L} {S:St} {id:Nat} (h:Q (.exit id) S Y): ∀ (k:List KI),Hw id k=none -> DZ P Γ F B L Q k (.exit id) S Y
 | [],_=>h
 | .blk i::k,hp=>by
  unfold Hw at hp;split at hp
  ·cases hp
  ·rename_i e
   show (if id=i then _ else _)
   rw [yb e];exact OU h k hp
 | .code c::k,hp=>OU (k:=k) h hp
 | .lend J::k,hp=>OU (k:=k) h hp
 | .scp::k,hp=>OU (k:=k) h hp
 | .loopN m b::k,hp=>OU (k:=k) h hp
end
def Jc (t:Nat):Code -> Option (Array Tmp×Code×Code)
 | .rangeFunc (.tmp t') ps a b=>if t'=t then some (ps,a,b) else Jc t b
 | .seq a b=>match Jc t a with
  | some r=>some r
  | none=>Jc t b
 | .cond _ a b=>match Jc t a with
  | some r=>some r
  | none=>Jc t b
 | .block _ c=>Jc t c
 | .loop c=>Jc t c
 | .scope c=>Jc t c
 | _=>none
def bU (f:Func) (t:Nat):Array Tmp×Code×Code:=match f.body with
 | some c=>(Jc t c).getD (#[],.skip,.skip)
 | none=>(#[],.skip,.skip)
def SS (f:Func) (t:Nat):Code:=(bU f t).2.2
def nW (f:Func) (t:Nat):Code:=(bU f t).2.1
def Ab (f:Func):Code:=f.body.getD .skip
def bz (id:Nat) (k:List KI):List KI:=(Hw id k).getD []
theorem DZ.exitTo {P:Program} {Γ:A9} {F:Fence} {B:Option Nat} {L:Nat} {Y:Bg P Γ L} {Q:QY P Γ L} {id:Nat} {k:List KI} {S:St} (h:(Hw id k).isSome=true) (hk:A1 P Γ F B L Y Q (bz id k) S):DZ P Γ F B L Q k (.exit id) S Y:=by
 unfold bz at hk;cases hp:Hw id k with
 | none=>rw [hp] at h;cases h
 | some k'=>rw [hp] at hk;exact L2 hp hk
def Lw:List KI -> Option (Operand×Array Tmp×Code×Code×List KI)
 | .code (.rangeFunc g ps a b)::k=>some (g,ps,a,b,k)
 | _=>none
theorem BY.rangeAt {P:Program} {Γ:A9} {F:Fence} (ID:F=Fence.wide∨∃ l,F=Fence.wide.inRound l) {B L:Nat} {Y:Bg P Γ L} {Q:QY P Γ L} {fr:List DV} {h:DH} {K:List KI} (ex:List Exit) (I6:(ex.all fun e=>(J8 e).isSome)=true) (g:Operand) (ps:Array Tmp) (a b:Code) (k2:List KI) {kk:Nat} {α σ:Type} (enc:α -> Array Value) (l:List α) (H:σ -> DH) (FR:α -> List DV) (f:α -> σ -> Option (σ×Nat)) {s0:σ} {rE:σ×Nat} (hf:ET f l s0=some rE)
 (hK:Lw K=some (g,ps,a,b,k2)) (hg:Ac fr g= .it kk) (hk:h[kk]? =some (some (.iter (l.map enc)))) (Du: ∀ x,(enc x).size=ps.size) (L':Nat) (hL:Nat.ble L L'=true) (F8:fr.all (GJ L')=true) (h0:h.set kk none=H s0) (Di:(fun x=>JX fr ps.toList (enc x).toList)=FR)
 (DU: ∀ (l B:Nat) (N:Bg P Γ L') (x:α) (s:σ) (r:σ×Nat),f x s=some r -> GB P Γ (Fence.wide.inRound l) (some B) L' N (Cs L' ex r.2 (H r.1)) a b ⟨FR x,H s⟩)
 (EB: ∀ e,(Exit.normal::ex)[rE.2]? =some e -> DZ P Γ F (some B) L Q k2 e ⟨fr,H rE.1⟩ Y):A1 P Γ F (some B) L Y Q K ⟨fr,h⟩:=by
 unfold Lw at hK;split at hK
 ·cases hK;subst Di;exact BY.rangeFold ID ex I6 enc l H f hf hg hk Du (zV hL) F8 h0 DU EB
 ·cases hK
theorem BY.rangeAt0 {P:Program} {Γ:A9} {F:Fence} (ID:F=Fence.wide∨∃ l,F=Fence.wide.inRound l) {B L:Nat} {Y:Bg P Γ L} {Q:QY P Γ L} {fr:List DV} {h:DH} {K:List KI} (g:Operand) (ps:Array Tmp) (a b:Code) (k2:List KI) {kk:Nat} {α σ:Type} (enc:α -> Array Value) (l:List α) (H:σ -> DH) (FR:α -> List DV) (f:α -> σ -> Option σ) {s0 sE:σ} (hf:By f l s0=some sE)
 (hK:Lw K=some (g,ps,a,b,k2)) (hg:Ac fr g= .it kk) (hk:h[kk]? =some (some (.iter (l.map enc)))) (Du: ∀ x,(enc x).size=ps.size) (L':Nat) (hL:Nat.ble L L'=true) (F8:fr.all (GJ L')=true) (h0:h.set kk none=H s0) (Di:(fun x=>JX fr ps.toList (enc x).toList)=FR)
 (DU: ∀ (l B:Nat) (N:Bg P Γ L') (x:α) (s r:σ),f x s=some r -> GB P Γ (Fence.wide.inRound l) (some B) L' N (Cs L' [] 0 (H r)) a b ⟨FR x,H s⟩)
 (EB:A1 P Γ F (some B) L Y Q k2 ⟨fr,H sE⟩):A1 P Γ F (some B) L Y Q K ⟨fr,h⟩:=by
 refine BY.rangeAt ID [] rfl g ps a b k2 enc l H FR (fun x s=>(f x s).map fun s'=>(s',0)) (rE:=(sE,0)) (by rw [fk,hf];rfl) hK hg hk Du L' hL F8 h0 Di (fun l' B' N' x s r hr=>?_) (fun e he=>?_)
 ·cases hx:f x s with
  | none=>rw [hx] at hr;cases hr
  | some s'=>
   rw [hx] at hr;cases hr;exact DU l' B' N' x s s' hx
 ·cases he;exact EB
def LJ (t:Nat):List Nat -> Code -> List KI -> Option (List KI)
 | ms,.seq a b,k=>match LJ t ms a (.code b::k) with
  | some r=>some r
  | none=>LJ t ms b k
 | ms,.cond _ a b,k=>match LJ t ms a k with
  | some r=>some r
  | none=>LJ t ms b k
 | ms,.block i c,k=>LJ t ms c (.blk i::k)
 | ms,.scope c,k=>LJ t ms c (.scp::k)
 | m::ms,.loop b,k=>LJ t ms b (.loopN m b::k)
 | _,.rangeFunc (.tmp t') ps a b,k=>if t'=t then some (.code (.rangeFunc (.tmp t') ps a b)::k) else none
 | _,_,_=>none
def Fl (c:Code) (t:Nat) (ms:List Nat):List KI:=(LJ t ms c []).getD []
def BF (c:Code) (id:Nat) (ms:List Nat):List KI:=(LL id ms c []).getD []
def CW (c:Code) (id:Nat) (ms:List Nat):List KI:=(LM id ms c []).getD []
end Go.Proofs.YtgkhhfnhacibcaaGreatDoor
namespace Go.Proofs.YtgkhhfnhacibcaaGreatDoor
open Go.RowKit
abbrev L1 (l:List DV):Nat -> DV:=fun j=>l.getD j .any
abbrev Aq {α:Type} [Inhabited α] (c:α -> List DV) (l:List α):Nat -> Nat -> DV:=fun i j=>(c (l.getD i default)).getD j .any
abbrev JC {α:Type} (c:α -> List DV):α -> Nat -> DV:=fun x j=>(c x).getD j .any
def AG (c:AB):List DV:=[.int .i64 c.kind,.ints c.cells,.int .i64 c.set,.int .i64 c.other,.int .i64 c.lo,.int .i64 c.hi,.ints c.runs,.int .i64 c.rule,.int .i64 c.spot]
def At (x:List Int):List DV:=[.ints x]
def Of (x:List Bool):List DV:=[.bools x]
def DI (x:Int×Int):List DV:=[.int .i64 x.1,.int .i64 x.2]
def AE (q:AA):List DV:=[.int .i64 q.cells,.int .i64 q.symbols,.ints q.values,.sl 1 q.nbrs.length (Aq At q.nbrs),.sl 9 q.cons.length (Aq AG q.cons)]
end Go.Proofs.YtgkhhfnhacibcaaGreatDoor
namespace Go.Proofs.YtgkhhfnhacibcaaGreatDoor
abbrev zc:=@List.drop_eq_nil_of_le
end Go.Proofs.YtgkhhfnhacibcaaGreatDoor
namespace Go.Proofs.YtgkhhfnhacibcaaGreatDoor
open Go.RowKit
structure C5 (P:Program) (Γ:A9) where
 l:Nat
 Rd:Nat -> Prop
 encs:List (Array Value)
 J:Nat -> (Nat -> Prop) -> World -> Prop
 Jx:(Nat -> Prop) -> World -> Prop
 hJ: ∀ i,Eo (J i)
 hJx:Eo Jx
 lo: ∀ b,b<Γ.ng -> Rd b
 hy: ∀ i args G W1,encs[i]? =some args -> J i G W1 -> YieldAt Fence.wide 0 P l args W1 fun e W'=>
  AQ (fun k=>¬ (G k∨Rd k)) W1 W'/\ ((e= .returned (.bool true)/\ J (i+1) G W')∨(e= .returned (.bool false)/\ Jx G W'))
def de (P:Program) (Γ:A9) (L:Nat) (Rd:Nat -> Prop) (J:(Nat -> Prop) -> World -> Prop) (hJ:Eo J):Bg P Γ L where
 I:=fun N h ρ w=>∃ G,J G w/\ (∀ b,G b -> b<w.heap.size)/\ (∀ b,MO h ρ b -> G b)/\ (∀ b,N b↔(b<w.heap.size/\ Γ.ng<=b/\ ¬ G b/\ ¬ Rd b))
 st:=by
  rintro N h ρ w h' ρ' w' ⟨G,h1,h2,h3,h4⟩ H H' st _;have hs:=st.upd.size;refine ⟨fun b=>G b∨(w.heap.size<=b/\ b<w'.heap.size),hJ G _ w w' h1 (st.upd.mono fun b _ hb=>h3 b hb) (fun k hk=>hk.imp id fun h=>h.1) (fun k hk=>hk.elim (fun h=>yc (h2 k h) hs) fun h=>h.2),fun b hb=>hb.elim (fun h=>yc (h2 b h) hs) fun h=>h.2,fun b hb=>?_,fun b=>?_⟩
  ·rcases st.grow b hb with h | h
   ·exact .inl (h3 b h)
   ·obtain ⟨k,o,p,q1,q2,q3⟩:=hb;obtain ⟨_,_,c,t,z,e⟩:=H'.cel k o p b q1 q2 q3;exact .inr ⟨h,(yR.1 e).1⟩
  ·rw [h4];constructor
   ·rintro ⟨a1,a2,a3,a4⟩;exact ⟨yc a1 hs,a2,fun hx=>hx.elim a3 fun hx=>by omega,a4⟩
   ·rintro ⟨a1,a2,a3,a4⟩;have: ¬ (w.heap.size<=b):=fun hx=>a3 (.inr ⟨hx,a1⟩)
    exact ⟨by omega,a2,fun hx=>a3 (.inl hx),a4⟩
section
variable {P:Program} {Γ:A9}
def C5.Y (C:C5 P Γ) (L i:Nat):Bg P Γ L:=de P Γ L C.Rd (C.J i) (C.hJ i)
def C5.X (C:C5 P Γ) (L:Nat):Bg P Γ L:=de P Γ L C.Rd C.Jx C.hJx
def C5.Q (C:C5 P Γ) (L:Nat):QY P Γ L:=fun e _ Y=>(e= .normal∨e= .ret)/\ (Y=C.Y L C.encs.length∨Y=C.X L)
def YW:DV -> Option Value
 | .int k n=>some (.int k n)
 | .bool b=>some (.bool b)
 | _=>none
theorem wD {M:Nat -> Prop} {w:World} {ρ:List AN} {d:DV} {v u:Value} (h:YW d=some v) (hr:AO M w d ρ u):u=v:=by
 cases d <;> simp only [YW,ze] at h
 all_goals first | (subst h;exact hr) | (cases h)
def TE:List DV -> Option (List Value)
 | []=>some []
 | d::ds=>match YW d,TE ds with
  | some v,some vs=>some (v::vs)
  | _,_=>none
theorem cw {M:Nat -> Prop} {w:World} {ρ:List AN} {f:Operand -> Value} {g:Operand -> DV} (hr: ∀ x,AO M w (g x) ρ (f x)): ∀ {l:List Operand} {vs:List Value},TE (l.map g)=some vs -> l.map f=vs
 | [],vs,h=>by cases h;rfl
 | x::l,vs,h=>by
  simp only [zy,TE] at h;split at h
  ·rename_i v BZ h1 h2;cases h;rw [zy,wD h1 (hr x),cw hr h2]
  ·cases h
def Lb (P:Program) (Γ:A9) (ops:Array Oper) (p:Nat) (S:St) (As:Bw):Option (List Value×Nat×St×St×List Prop):=match Ej P Γ ops (ops.toList.take p) S As with
 | none=>none
 | some (S1,vs,L7)=>match ops[p]? with
  | none=>none
  | some o=>match KR ops S1 o with
   | some true=>match o.op with
    | .call c=>match c.callee with
     | .value f=>match Ac S1.fr f with
      | .yl l=>match TE (c.args.toList.map (Ac S1.fr)) with
       | none=>none
       | some xs=>match Ej P Γ ops (ops.toList.drop (p+1)) ⟨Do S1.fr o.dst (.bool true),S1.h⟩ L7 with
        | none=>none
        | some (ST,vT,Gj)=>match Ej P Γ ops (ops.toList.drop (p+1)) ⟨Do S1.fr o.dst (.bool false),S1.h⟩ Gj with
         | none=>none
         | some (SF,vF,_)=>some (xs,l,ST,SF,vs++(vT++vF))
      | _=>none
     | _=>none
    | _=>none
   | _=>none
end
section
variable {P:Program} {Γ:A9} {N:Nat -> Prop} {S:St} {ρ:List AN} {a:Act} {w:World} {F:Fence}
theorem YH (hF:Dl F P) {ops:Array Oper} (BA:Dq ops=true) {Q:Exit -> Act -> World -> Prop} {Ef:List Oper}: ∀ (l:List Oper) (_: ∀ o∈l,o∈ops) {S:St} {ρ:List AN} {a:Act} {w:World} {As:Bw} {S':St} {vs:List Prop} {CL:Bw},
 Ad P Γ N S ρ a w -> Ej P Γ ops l S As=some (S',vs,CL) -> Bl vs ->
 (∀ ρ' a' w',Ad P Γ N S' ρ' a' w' -> Cr S.h ρ w S'.h ρ' w' -> a'.defers=a.defers -> wpListIn F 0 P ops Q Ef a' w') -> wpListIn F 0 P ops Q (l++Ef) a w
 | [],_,S,ρ,a,w,As,S',vs,CL,R,h,_,hQ=>by
  cases h;exact hQ ρ a w R (Cr.refl _ _ _) rfl
 | o::rest,hl,S,ρ,a,w,As,S',vs,CL,R,h,hv,hQ=>by
  have hd: ∀ c,o.op≠.defer c:=by
   obtain ⟨j,hj,e⟩:=Array.getElem_of_mem (hl o (by simp));exact H2 BA (j:=j) (by rw [zB hj,e])
  have EA: ∀ o∈rest,o∈ops:=fun o ho=>hl o (by simp [ho])
  have C1: ∀ v,(a.put o.dst v).defers=a.defers:=fun v=>by cases ho:o.dst <;> simp [Act.put]
  simp only [Ej] at h;rw [List.cons_append];unfold wpListIn;split at h
  ·split at h
   ·cases h
   ·rename_i S1 Cf ext1 L7 h1;split at h
    ·cases h
    ·rename_i S2 Eu Gj h2;cases h;obtain ⟨B3,CD⟩:=Cl.1 hv;exact Yy hF R hd h1 B3 fun ρ' a' w' R' st Dj _=>YH hF BA rest EA R' h2 CD fun ρ'' FS CC FT DP Gv=>hQ ρ'' FS CC FT (st.trans DP) (Gv.trans Dj)
  ·split at h
   ·cases h
   ·rename_i S1 Cf RB h1;split at h
    ·cases h
    ·rename_i S2 Eu Gj h2;cases h;obtain ⟨B3,CD⟩:=Cl.1 hv;obtain ⟨e1,hs⟩:=Se R h1 B3
     have go: ∀ v,Ad P Γ N S1 ρ (a.put o.dst v) w -> wpListIn F 0 P ops Q (rest++Ef) (a.put o.dst v) w:=fun v R'=>
      YH hF BA rest EA R' h2 CD fun ρ'' FS CC FT DP Gv=>hQ ρ'' FS CC FT (by rw [←e1];exact DP) (Gv.trans (C1 v))
     rcases hs with ⟨hw,v,g1,g2⟩ | ⟨hw,g2⟩
     ·rw [yP hw];refine ⟨fun f _=>hF.fn f,?_⟩;rw [zAf _ _ _ hd,g1 w (Keep.ofExt (Au.refl w))];exact go v g2
     ·rw [yb (by rw [hw];exact zAN)];exact ⟨fun f _=>hF.fn f,go undef g2⟩
theorem mq {l:Nat} {ρ':Operand -> Value} {o:Oper} {c:Call} {f:Operand} {vs:List Value} (ho:o.op= .call c) (hc:c.callee= .value f) (hf:ρ' f= .func (.yield l) #[] #[]) (hv:c.args.toList.map ρ'=vs):(execOp ρ' o).run P w=(Instr.yield l vs.toArray).run P w:=by
 unfold execOp;rw [ho]
 show ((resolve ρ' c o.type)>>=fun d=>invoke d.target d.args).run P w=_
 unfold resolve;rw [hc];simp only [Deferred.ofValue,hf]
 have e: #[]++Array.map ρ' c.args=vs.toArray:=by
  rw [←hv];apply Array.ext';simp
 have he:((pure { target:=.fn (.yield l) #[],args:=#[]++Array.map ρ' c.args }:Sem Deferred)>>=fun d=>invoke d.target d.args).run P w=(Instr.yield l (#[]++Array.map ρ' c.args)).run P w:=rfl;rw [he,e]
theorem Tr.yield {L:Nat} {C:C5 P Γ} {i:Nat} {Q:QY P Γ L} (hF:Dl Fence.wide P) {id:Nat} {ops:Array Oper} {p:Nat} {As:Bw} {x:Array Value} {ST SF:St} {vs:List Prop} (BA:Dq ops=true)
 (h:Lb P Γ ops p S As=some (x.toList,C.l,ST,SF,vs)) (hv:Bl vs) (hx:C.encs[i]? =some x) (hT:Q .normal ST (C.Y L (i+1))) (hE:Q .normal SF (C.X L)):Tr P Γ Fence.wide none L (C.Y L i) (.region id ops false) S Q:=fun N ρ a w R y m b=>by
 unfold Lb at h;split at h
 ·cases h
 rename_i S1 Cf L7 h1;split at h
 ·cases h
 rename_i o ho;split at h
 ·rename_i hw;split at h
  ·rename_i c tr;split at h
   ·rename_i f hc;split at h
    ·rename_i l hl;split at h
     ·cases h
     rename_i xs XG;split at h
     ·cases h
     rename_i ST' vT Gj h2;split at h
     ·cases h
     rename_i SF' vF Jk h3;cases h;obtain ⟨B3,DJ⟩:=Cl.1 hv;obtain ⟨ri,rj⟩:=Cl.1 DJ;have hp:p<ops.toList.length:=by simpa using (yR.1 ho).1
     have r9:ops.toList=ops.toList.take p++o::ops.toList.drop (p+1):=by
      have e:ops.toList[p]=o:=by
       have:=(yR.1 ho).2;simpa using this
      rw [←e,←zF hp,List.take_append_drop]
     have DW: ∀ o'∈ops.toList,o'∈ops:=fun o' h=>by simpa using h
     have hd: ∀ c,o.op≠.defer c:=H2 BA ho;refine wpIn_region_list ?_;rw [r9];refine YH hF BA _ (fun o' I0=>DW o' (List.mem_of_mem_take I0)) R h1 B3 fun ρ1 a1 w1 R1 NL ug=>?_
     obtain ⟨G,y1,y2,y3,y4⟩:=(C.Y L i).st y R.hr R1.hr NL.st (fun k p _ hp=>NL.pl k p hp);obtain ⟨fn,tmps,iS,body,hy,hR⟩:=C.hy i x G w1 hx y1;unfold wpListIn;rw [yP (JQ R1 hw)]
     have uT:a1.eval f= .func (.yield C.l) #[] #[]:=by
      have hr:=Bm R1 f;rw [hl] at hr;exact hr
     have us:c.args.toList.map a1.eval=x.toList:=cw (f:=a1.eval) (g:=Ac S1.fr) (fun x=>Bm R1 x) XG;refine ⟨fun f _=>hF.fn f,?_⟩;rw [zAf _ _ _ hd,mq tr hc uT us,hy];refine ⟨fun hx=>(by cases hx),hR.mono ?_⟩;have A7:a1.defers= []:=ug.trans m;rintro e W' ⟨hu,hj⟩;have hs:=hu.size;have Be:AQ N w1 W':=hu.mono fun bb AU hn=>(y4 bb).2 ⟨AU,zBL fun hx=>hn (.inr (C.lo bb hx)),fun hx=>hn (.inl hx),fun hx=>hn (.inr hx)⟩
     have fS: ∀ bb,N bb -> N bb/\ Γ.ng<=bb:=fun bb hb=>⟨hb,((y4 bb).1 hb).2.1⟩
     have fN: ∀ bb,(bb<W'.heap.size/\ Γ.ng<=bb/\ ¬ G bb/\ ¬ C.Rd bb) -> N bb∨w1.heap.size<=bb:=fun bb ⟨q1,q2,q3,q4⟩=>by
      rcases zt bb w1.heap.size with h | h
      ·exact .inl ((y4 bb).2 ⟨h,q2,q3,q4⟩)
      ·exact .inr h
     have H':Bb P Γ (fun bb=>bb<W'.heap.size/\ Γ.ng<=bb/\ ¬ G bb/\ ¬ C.Rd bb) S1.h ρ1 W':=R1.hr.foreign Be fS fN fun bb ⟨q1,q2,_⟩=>⟨q1,q2⟩
     have Ck:Ad P Γ (fun bb=>bb<W'.heap.size/\ Γ.ng<=bb/\ ¬ G bb/\ ¬ C.Rd bb) S1 ρ1 a1 W':=⟨H',R1.fr.out (Bi.foreign (Γ:=Γ) Be fS fN)⟩;have C1: ∀ v,(a1.put o.dst v).defers=a1.defers:=fun v=>by cases ho:o.dst <;> simp [Act.put]
     rcases hj with ⟨rfl,hj⟩ | ⟨rfl,hj⟩
     ·have R':=Ho Ck o.dst (d:=.bool true) (v:=.bool true) rfl;refine LG hF BA _ (fun o' I0=>DW o' (List.mem_of_mem_drop I0)) R' h2 ri fun ρ2 a2 w2 R2 O6 Xx=>?_
      refine ⟨ST,ρ2,_,C.Y L (i+1),hT,R2,(C.Y L (i+1)).st ⟨G,hj,fun bb hb=>yc (y2 bb hb) hs,y3,fun bb=>Iff.rfl⟩ R'.hr R2.hr O6.st (fun k p _ hp=>O6.pl k p hp),?_,Bd.none⟩
      show a2.defers= []
      rw [Xx,C1];exact A7
     ·have R':=Ho Ck o.dst (d:=.bool false) (v:=.bool false) rfl;refine LG hF BA _ (fun o' I0=>DW o' (List.mem_of_mem_drop I0)) R' h3 rj fun ρ2 a2 w2 R2 O6 Xx=>?_
      refine ⟨SF,ρ2,_,C.X L,hE,R2,(C.X L).st ⟨G,hj,fun bb hb=>yc (y2 bb hb) hs,y3,fun bb=>Iff.rfl⟩ R'.hr R2.hr O6.st (fun k p _ hp=>O6.pl k p hp),?_,Bd.none⟩
      show a2.defers= []
      rw [Xx,C1];exact A7
    ·cases h
   ·cases h
  ·cases h
 ·cases h
end
theorem gA {P:Program} {f:Nat} {fn:Func} (hf:P.funcs[f]? =some fn) (hb:fn.body.isSome=true) (hn:(fn.name== "runtime.NumGoroutine")=false) (args:Array Value) (W:World):(callFunc f args).run P W= .ok (.enter f args) W:=by
 have N9: ¬ fn.name= "runtime.NumGoroutine" :=by simpa using hn
 have Cq: ¬ fn.body=none:=by intro e;rw [e] at hb;cases hb
 simp [callFunc,go_sem,hf,N9,Cq]
theorem ES.iterN {P:Program} {Γ:A9} {f gf m:Nat} {fn:Func} {ds:List DV} {c:Nat -> DV} {h0:DH} {encs:List (Array Value)} (Ei:ES P Γ f ds [] (.fn gf m c) h0 true) (FM:ds.all Gl=true)
 (hf:P.funcs[gf]? =some fn) (hb:fn.body.isSome=true) (hn:(fn.name== "runtime.NumGoroutine")=false) (Tn:fn.results= #[])
 (body: ∀ C:C5 P Γ,C.encs=encs -> A1 P Γ Fence.wide none h0.length (C.Y h0.length 0) (C.Q h0.length) [.code (Ab fn)] ⟨.yl C.l::(List.range m).map c++List.replicate (fn.ntmps-(m+1)) .any,h0⟩) (h:DH):ES P Γ f ds h (.it h.length) (h++[some (.iter encs)]) true:=by
 refine ⟨Ei.1,fun N ρ w args HR Ci=>?_⟩;refine (Ei.2 (MS N h ρ) [] w args (N4 (fun b hb=>HR.lt2 hb) HR.gi) ⟨Ci.1,fun i hi=>?_⟩).mono ?_
 ·have hx:=Ng (ya.1 FM (ds.getD i .any) (by simp [hi]));exact AO.out _ (DR (fun b hb=>NC.1 hb) []) (hx _ _ _ _ (Ci.2 i hi))
 ·rintro e w' ⟨v,rfl,⟨⟨ρ',g1,g2,g3,g4⟩,g5⟩⟩;have hE:=g5 rfl;obtain ⟨lb,hv,hl,Tw⟩:=g2;have HP: ∀ b,MO h0 ρ' b -> w.heap.size<=b:=fun b hb=>(g3.grow b hb).resolve_left fun ⟨k,o',p',q1,_⟩=>by simp at q1
  have Cp: ∀ b,MO h0 ρ' b -> Γ.ng<=b/\ ¬ MS N h ρ b/\ DD w' b:=fun b ⟨k,o,q,q1,q2,q3⟩=>g1.cel k o q b q1 q2 q3
  have GP:Γ.ng<=w.heap.size:=Γ.lo _ HR.gi;have A5:=hE.size
  have AU: ∀ b,MO h0 ρ' b -> b<w'.heap.size:=fun b hb=>by
   obtain ⟨_,_,c,t,z,h⟩:=Cp b hb;exact (yR.1 h).1
  have lo: ∀ b,b<Γ.ng -> b<w'.heap.size/\ ¬ MS (MS N h ρ) h0 ρ' b:=fun b hb=>⟨yc hb (yf GP A5),fun hx=>by
   rcases hx with hx | hx
   ·have:=(HR.lt2 hx).2;omega
   ·have:=(Cp b hx).1;omega⟩
  let p:AN:=⟨0,0,0,v,fun b=>MO h0 ρ' b⟩
  have hp: ∀ b,p.foot b -> w.heap.size<=b/\ DD w' b:=fun b hb=>⟨HP b hb,(Cp b hb).2.2⟩
  refine ⟨v,rfl,⟨⟨ρ++[p],HR.snoc hE hp ?_,⟨p,by rw [←HR.len];simp,rfl⟩,BO.snoc HR hE fun b hb=>(hp b hb).1,fun _ _ h=>EC h⟩,g5⟩⟩;refine ⟨gf,lb,fun b=>b<w'.heap.size/\ ¬ MS (MS N h ρ) h0 ρ' b,⟨hv,fun args W=>gA hf hb hn args W⟩,?_,fun b hb=>⟨fun hm=>?_,hb.1⟩,AU⟩
  ·intro l J Jx G W hJ hJx hU hG YB hY vG
   let C:C5 P Γ:=⟨l,fun b=>b<w'.heap.size/\ ¬ MS (MS N h ρ) h0 ρ' b,encs,J,Jx,hJ,hJx,lo,hY⟩
   have T:=body C rfl;cases hc:fn.body with
   | none=>rw [hc] at hb;cases hb
   | some code=>
   have eb:Ab fn=code:=by unfold Ab;rw [hc];rfl
   rw [eb] at T;refine callsIn_of_wp hf hc trivial ?_ rfl
   have fM: ∀ b,(b<W.heap.size/\ Γ.ng<=b/\ ¬ G b/\ ¬ (b<w'.heap.size/\ ¬ MS (MS N h ρ) h0 ρ' b)) -> MS N h ρ b∨w'.heap.size<=b:=fun b ⟨_,_,q3,q4⟩=>by
    rcases zt b w'.heap.size with hx | hx
    ·by_cases hm:MS (MS N h ρ) h0 ρ' b
     ·rcases hm with hm | hm
      ·exact .inl hm
      ·exact absurd (hG b hm) q3
     ·exact absurd ⟨hx,hm⟩ q4
    ·exact .inr hx
   have hu:AQ (fun b=>MS N h ρ b) w' W:=hU.mono fun b AU hx=>by
    by_cases hm:MS (MS N h ρ) h0 ρ' b
    ·rcases hm with hm | hm
     ·exact hm
     ·exact absurd (.inl hm) hx
    ·exact absurd (.inr ⟨AU,hm⟩) hx
   have fQ: ∀ b,MS N h ρ b -> MS N h ρ b/\ Γ.ng<=b:=fun b hb=>⟨hb,(HR.lt2 hb).2⟩
   have HW:Bb P Γ (fun b=>b<W.heap.size/\ Γ.ng<=b/\ ¬ G b/\ ¬ (b<w'.heap.size/\ ¬ MS (MS N h ρ) h0 ρ' b)) h0 ρ' W:=g1.foreign hu fQ fM fun b hb=>⟨hb.1,hb.2.1⟩
   have vS:B8 (MS (MS N h ρ) h0 ρ') w' ρ' ((List.range m).map c) lb:=⟨by simp [hl],fun j hj=>by
    have BM:j<m:=by simpa using hj
    obtain ⟨u,q1,q2⟩:=Tw j BM;have e1:((List.range m).map c).getD j .any=c j:=by simp [BM]
    have e2:lb.getD j undef=u:=by rw [yn,q1];rfl
    rw [e1,e2];exact q2⟩
   have vU:=vS.out (Bi.foreign (Γ:=Γ) hu fQ fM)
   have fr:B8 (MS (fun b=>b<W.heap.size/\ Γ.ng<=b/\ ¬ G b/\ ¬ (b<w'.heap.size/\ ¬ MS (MS N h ρ) h0 ρ' b)) h0 ρ') W ρ' (.yl l::(List.range m).map c++List.replicate (fn.ntmps-(m+1)) .any) (#[.func (.yield l) #[] #[]]++lb++Array.replicate (fn.ntmps-(#[Value.func (.yield l) #[] #[]]++lb).size) undef):=by
    have e3:fn.ntmps-(#[Value.func (.yield l) #[] #[]]++lb).size=fn.ntmps-(m+1):=by simp [hl,Nat.add_comm]
    rw [e3];refine B8.append ?_ (B8.anys _ _ _ _);have:DV.yl l::(List.range m).map c= [DV.yl l]++(List.range m).map c:=rfl;rw [this]
    exact B8.append ⟨rfl,fun j hj=>by
     have:j=0:=by simpa using hj
     subst this;rfl⟩ vU
   refine zAY ((show Tr P Γ Fence.wide none h0.length (C.Y h0.length 0) code _ (DZ P Γ Fence.wide none h0.length (C.Q h0.length) []) from T) _ ρ' _ W ⟨HW,fr⟩ ⟨G,vG,YB,fun b hb=>hG b hb,fun b=>Iff.rfl⟩ rfl Bd.none) ?_;rintro e a' W' ⟨S',ρ2,N',Y',q1,q2,q3,q4,q5⟩
   have fin:(Y'=C.Y h0.length C.encs.length∨Y'=C.X h0.length) -> (∃ G',J encs.length G' W')∨∃ G',Jx G' W':=by
    rintro (rfl | rfl)
    ·obtain ⟨G',k1,_⟩:=q3;exact .inl ⟨G',k1⟩
    ·obtain ⟨G',k1,_⟩:=q3;exact .inr ⟨G',k1⟩
   cases e with
   | normal=>exact bodyPost_end (results_none Tn _ _ _) q4 ⟨⟨_,rfl⟩,fin q1.2⟩
   | ret=>exact bodyPost_ret (results_none Tn _ _ _) q4 ⟨⟨_,rfl⟩,fin q1.2⟩
   | exit id=>exact absurd q1.1 (by simp)
   | goto t=>exact absurd q1.1 (by simp)
   | panic ch=>exact q1.elim
   | outgrown=>exact q1.elim
  ·rcases hm with hm | hm
   ·exact hb.2 (.inl (.inl hm))
   ·rcases MO.snoc HR hm with hm | hm
    ·exact hb.2 (.inl (.inr hm))
    ·exact hb.2 (.inr hm)
section
variable {P:Program} {Γ:A9}
def Lx:List KI -> Option (Array Oper×List KI)
 | .code (.region _ ops false)::k=>some (ops,k)
 | _=>none
def WM (live σ:List Nat) (L:Nat) (r:List Value×Nat×St×St×List Prop):List Value×Nat×List DV×DH×List DV×DH×List Prop×Bool:=
 (r.1,r.2.1,(Proofs.YtgkhhfnhacibcaaGreatDoor.comp live σ r.2.2.1).fr,(Proofs.YtgkhhfnhacibcaaGreatDoor.comp live σ r.2.2.1).h,(Proofs.YtgkhhfnhacibcaaGreatDoor.comp live σ r.2.2.2.1).fr,(Proofs.YtgkhhfnhacibcaaGreatDoor.comp live σ r.2.2.2.1).h,r.2.2.2.2,JW σ L r.2.2.1.h.length&&JW σ L r.2.2.2.1.h.length)
theorem A1.yieldAt {L:Nat} {C:C5 P Γ} {i:Nat} {Q:QY P Γ L} {S:St} {K k:List KI} {ops:Array Oper} (hF:Dl Fence.wide P) (hK:Lx K=some (ops,k)) (BA:Dq ops=true) (p:Nat) (As:Bw) {x:Array Value} (live σ:List Nat) (OR:List DV) (hT:DH) (OS:List DV) (hE:DH) (vs:List Prop)
 (h:(Lb P Γ ops p S As).map (WM live σ L)=some (x.toList,C.l,OR,hT,OS,hE,vs,true)) (hv:Bl vs) (hx:C.encs[i]? =some x) (hc:H3 k=true) (Xm:A1 P Γ Fence.wide none L (C.Y L (i+1)) Q k ⟨OR,hT⟩) (Xn:A1 P Γ Fence.wide none L (C.X L) Q k ⟨OS,hE⟩):A1 P Γ Fence.wide none L (C.Y L i) Q K S:=by
 unfold Lx at hK;split at hK
 ·rename_i id oe k';cases hK;cases hr:Lb P Γ ops p S As with
  | none=>rw [hr] at h;cases h
  | some r=>
   obtain ⟨xs,l,ST,SF,Cf⟩:=r;rw [hr] at h;simp only [zD,WM,ze,zv,yT] at h;obtain ⟨rfl,rfl,rfl,rfl,rfl,rfl,rfl,s1,s2⟩:=h;exact Tr.yield hF BA hr hv hx (BY.le (BW.comp live σ ST s1) hc Xm) (BY.le (BW.comp live σ SF s2) hc Xn)
 ·cases hK
theorem TF {α β:Type} {o:Option α} {f:α -> β} {r:β} (h:o.map f=some r): ∃ a,o=some a/\ r=f a:=by
 cases o with
 | none=>cases h
 | some a=>cases h;exact ⟨a,rfl,rfl⟩
theorem UU {α β:Type} {l:List β} {i:Nat} {f:α -> β} {x:α} {r:List α} (hd:l.drop i=(x::r).map f):l[i]? =some (f x)/\ i+1<=l.length/\ l.drop (i+1)=r.map f:=by
 have AU:i<l.length:=by
  rcases zt i l.length with h | h
  ·exact h
  ·rw [zc h] at hd;cases hd
 rw [zF AU] at hd;injection hd with h1 h2
 exact ⟨by rw [yQ AU,h1],AU,h2⟩
theorem Qw {α β:Type} {l:List β} {i:Nat} {f:α -> β} (hi:i<=l.length) (hd:l.drop i=([]:List α).map f):i=l.length:=by
 have:=congrArg List.length hd;simp at this;omega
end
def BV (x:Int):Array Value:=#[.int .i64 x]
def Mv (x:Int×Int):Array Value:=#[.int .i64 x.1,.int .i64 x.2]
end Go.Proofs.YtgkhhfnhacibcaaGreatDoor
namespace Go.Proofs.YtgkhhfnhacibcaaGreatDoor
open Go.RowKit
section
variable {P:Program} {Γ:A9}
end
end Go.Proofs.YtgkhhfnhacibcaaGreatDoor
