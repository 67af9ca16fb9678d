/- Part 2 of 6 of what the proofs of these laws stand on. -/
import Derived.Test.YtgkhhfnhacibcaaGreatDoorPeA
import Derived.Test.YtgkhhfnhacibcaaGreatDoorProg
import Derived.Shelf.Spec.TrailingZeros
set_option linter.all false
namespace Go.Proofs.YtgkhhfnhacibcaaGreatDoor
abbrev zQ:=@List.getElem?_replicate
abbrev zAm:=@Array.getElem?_replicate
end Go.Proofs.YtgkhhfnhacibcaaGreatDoor
namespace Go.Proofs.YtgkhhfnhacibcaaGreatDoor
open Go.RowKit
def S9 (P:Program) (t:TypeId):Option (Nat×TypeId×TypeInfo):=match P.underlying t with
 | some (.slice e)=>match L3 P e with
  | some (n,_)=>match P.info? e with
   | some i=>match i.zero with
    | some (.map none)=>if i.size=1/\ i.bytes<=128 then some (n,e,i) else none
    | _=>none
   | none=>none
  | none=>none
 | _=>none
theorem oX {P:Program} {t e:TypeId} {n:Nat} {i:TypeInfo} (h:S9 P t=some (n,e,i)):P.underlying t=some (.slice e)/\ P.info? e=some i/\ i.zero=some (.map none)/\ i.size=1/\ i.bytes<=128:=by
 unfold S9 at h;split at h
 ·rename_i e' hu;split at h
  ·split at h
   ·rename_i i' hi;split at h
    ·rename_i hz;split at h
     ·rename_i hc;cases h;exact ⟨hu,hi,hz,hc.1,hc.2⟩
     ·cases h
    ·cases h
   ·cases h
  ·cases h
 ·cases h
section
variable {P:Program} {Γ:BB} {N:Nat -> Prop} {S:St} {ρ:List AN} {a:Act} {w:World} {h:DH}
theorem mj {α:Type} {n j:Nat} {x y:α} (h:(List.replicate n x)[j]? =some y):x=y:=by
 rw [zQ] at h;split at h
 ·exact yH h
 ·cases h
theorem ou (R:Ad P Γ N S ρ a w) {t e:TypeId} {x y:Operand} {n:Nat} {i:TypeInfo} {kx ky:IntKind} {m:Int} (hT:S9 P t=some (n,e,i)) (hx:Ac S.fr x= .int kx m) (hy:Ac S.fr y= .int ky m)
 (hn:0<=m/\ m<=1000000000000) (o:Oper) (ho:o.op= .makeSlice t x y) (ext:Bool):
 BS P (execOp a.eval o) w (C1 P Γ N S.h ρ w ext (.msl S.h.length 1 0 m.toNat) (S.h++[some (.mo (.sets n (List.replicate m.toNat none) none))])):=by
 obtain ⟨hu,hi,hz,hs,DD⟩:=oX hT;have F4:=hn.1;have H2:=hn.2;have rx:=Bh R x;have ry:=Bh R y;rw [hx] at rx;rw [hy] at ry;have C6:(madeCells (Value.map none).cells (m.toNat*i.size)).size=m.toNat:=by rw [size_madeCells,hs,yz]
 have Cm: ∀ j,j<m.toNat -> (madeCells (Value.map none).cells (m.toNat*i.size))[j]? =some (Value.map none):=fun j hj=>by
  simp [madeCells,hs,hj,Value.cells,Nat.mod_one]
 refine BS.value (s:=Instr.makeSlice t (a.eval x) (a.eval y)) (by unfold execOp;rw [ho]) (v:=.slice (some ⟨w.heap.size,0,none⟩) m.toNat m.toNat) (w':=w.alloc (.cells (madeCells (Value.map none).cells (m.toNat*i.size)) e)) ?_ ?_
 ·rw [show a.eval x=_ from rx,show a.eval y=_ from ry];refine run_make w t e i _ hu hi hz kx ky m m F4 (zP _) ?_ (by omega);have:(i.bytes:Int)*m<=128*1000000000000:=Int.mul_le_mul (by omega) H2 F4 (by omega);omega
 ·generalize hC:madeCells (Value.map none).cells (m.toNat*i.size)=cs at C6 Cm ⊢
  refine Qj (ob:=.cells cs e) (o:=.mo (.sets n (List.replicate m.toNat none) none)) (d:=.msl S.h.length 1 0 m.toNat) (pl:=⟨w.heap.size,0,cs.size,.tuple (Array.replicate m.toNat (Value.map none)),fun b=>b=w.heap.size⟩) R.hr rfl rfl (fun M ρ'=>?_) (fun M ρ' hp=>⟨_,m.toNat,hp,by simp,yS _,by unfold LB;omega,by simp [C6]⟩) ext;refine ⟨Array.replicate m.toNat (Value.map none),rfl,by simp,⟨cs,e,zx w _,by simp [C6],yS _,fun j hj=>?_⟩,rfl,fun j l hj=>?_,fun j hj=>?_,fun b hb=>.inl hb,fun i j b h1 h2=>?_⟩
  ·rw [yQ] at hj
   show cs[0+j]? =_
   rw [yU,Cm j hj,zAm,xw hj]
  ·have:=mj hj;cases this
  ·have BX:=(yI.1 hj).1;rw [yQ] at BX;rw [zAm,xw BX]
  ·rw [zAm] at h1;split at h1 <;> cases h1
theorem BY.merge (H:BY P Γ N h ρ w) {w':World} {k j:Nat} {o oj o':DO} {p q p':AN} (Xd:k≠j) (hk:h[k]? =some (some o)) (hp:ρ[k]? =some p) (hj:h[j]? =some (some oj)) (hq:ρ[j]? =some q) (hu:AP p.foot w w') (hf: ∀ b,p'.foot b -> (p.foot b∨q.foot b)/\ C7 w' b)
 (ho:DW P (MS N ((h.set k none).set j none++[some o']) (ρ++[p'])) w' (ρ++[p']) p' o'):
 BY P Γ N ((h.set k none).set j none++[some o']) (ρ++[p']) w'/\ BN h ρ w ((h.set k none).set j none++[some o']) (ρ++[p']) w':=by
 have A3:((h.set k none).set j none).length=h.length:=by simp
 have hM: ∀ b,p.foot b -> MO h ρ b:=fun b hb=>⟨k,o,p,hk,hp,hb⟩
 have uV: ∀ b,q.foot b -> MO h ρ b:=fun b hb=>⟨j,oj,q,hj,hq,hb⟩
 have fD: ∀ {i:Nat} {o1:DO},((h.set k none).set j none)[i]? =some (some o1) -> i≠k/\ i≠j/\ h[i]? =some (some o1):=fun {i o1} hi=>by
  obtain ⟨e1,e2⟩:=Fd hi;obtain ⟨e3,e4⟩:=Fd e2;exact ⟨e3,e1,e4⟩
 have Hu: ∀ {i:Nat} {o1:DO} {p1:AN},((h.set k none).set j none++[some o'])[i]? =some (some o1) -> (ρ++[p'])[i]? =some p1 -> (i≠k/\ i≠j/\ i<h.length/\ h[i]? =some (some o1)/\ ρ[i]? =some p1)∨(i=h.length/\ o1=o'/\ p1=p'):=by
  intro i o1 p1 h1 h2;rcases DE h1 with ⟨hl,h1⟩ | ⟨hl,h1⟩
  ·rw [A3] at hl;rcases DE h2 with ⟨_,h2⟩ | ⟨CO,_⟩
   ·obtain ⟨e1,e2,e3⟩:=fD h1;exact .inl ⟨e1,e2,hl,e3,h2⟩
   ·rw [H.len] at CO;omega
  ·rw [A3] at hl;rcases DE h2 with ⟨CO,_⟩ | ⟨_,h2⟩
   ·rw [H.len] at CO;omega
   ·cases h1;exact .inr ⟨hl,rfl,h2.symm⟩
 have grow: ∀ b,MO ((h.set k none).set j none++[some o']) (ρ++[p']) b -> MO h ρ b:=by
  rintro b ⟨i,o1,p1,h1,h2,h3⟩;rcases Hu h1 h2 with ⟨_,_,_,g1,g2⟩ | ⟨_,_,rfl⟩
  ·exact ⟨i,o1,p1,g1,g2,h3⟩
  ·exact (hf b h3).1.elim (hM b) (uV b)
 have O:Bc (MS N h ρ) w ρ (MS N ((h.set k none).set j none++[some o']) (ρ++[p'])) w' (ρ++[p']):=
  ⟨fun b hb hm _=>hu.block b hb fun hx=>hm (.inr (hM b hx)),fun b hb=>.inl (hb.imp id (grow b)),fun i q hi=>D5 hi⟩
 refine ⟨⟨by simp [H.len],fun i o1 hi=>?_,fun i o1 p1 b h1 h2 h3=>?_,fun i i' o1 o2 p1 p2 b Aw h1 h2 h3 h4 h5 h6=>?_,fun b hb=>⟨yM (H.nlt b hb).1 hu.size,(H.nlt b hb).2⟩,Γ.st _ _ H.gi (hu.mono fun b _ hb=>(H.cel k o p b hk hp hb).1)⟩,⟨hu.mono fun b _ hb=>hM b hb,fun b hb=>.inl (grow b hb)⟩⟩
 ·rcases DE hi with ⟨hl,hi⟩ | ⟨hl,hi⟩
  ·obtain ⟨e1,e2,e3⟩:=fD hi;obtain ⟨p1,Ku,hr⟩:=H.obj i o1 e3;exact ⟨p1,D5 Ku,hr.out O hu (fun b hb=>.inr (hM b hb)) fun b _ h1 h2=>H.dis i k o1 o p1 p b e1 e3 hk Ku hp h1 h2⟩
  ·cases hi;exact ⟨p',by rw [hl,A3,←H.len];simp,ho⟩
 ·rcases Hu h1 h2 with ⟨Aw,_,_,g1,g2⟩ | ⟨_,_,rfl⟩
  ·obtain ⟨e1,e2,c,t,z,e3⟩:=H.cel i o1 p1 b g1 g2 h3;exact ⟨e1,e2,c,t,z,(hu.block b (xz.1 e3).1 fun hx=>H.dis i k o1 o p1 p b Aw g1 hk g2 hp h3 hx).trans e3⟩
  ·obtain ⟨e1,e2⟩:=hf b h3;rcases e1 with e1 | e1
   ·obtain ⟨q1,q2,_⟩:=H.cel k o p b hk hp e1;exact ⟨q1,q2,e2⟩
   ·obtain ⟨q1,q2,_⟩:=H.cel j oj q b hj hq e1;exact ⟨q1,q2,e2⟩
 ·have key: ∀ {i o1 p1},i≠k -> i≠j -> h[i]? =some (some o1) -> ρ[i]? =some p1 -> p1.foot b -> p'.foot b -> False:=fun {i o1 p1} Aw MN g1 g2 g3 g4=>by
   rcases (hf b g4).1 with e1 | e1
   ·exact H.dis i k o1 o p1 p b Aw g1 hk g2 hp g3 e1
   ·exact H.dis i j o1 oj p1 q b MN g1 hj g2 hq g3 e1
  rcases Hu h1 h3 with ⟨Qa,MN,_,g1,g2⟩ | ⟨e1,_,rfl⟩
  ·rcases Hu h2 h4 with ⟨hne3,_,_,g3,g4⟩ | ⟨e2,_,rfl⟩
   ·exact H.dis i i' o1 o2 p1 p2 b Aw g1 g3 g2 g4 h5 h6
   ·exact key Qa MN g1 g2 h5 h6
  ·rcases Hu h2 h4 with ⟨Qa,MN,_,g1,g2⟩ | ⟨e2,_,rfl⟩
   ·exact key Qa MN g1 g2 h6 h5
   ·exact Aw (e1.trans e2.symm)
def Kj (k k':Nat):DV -> DV
 | .msl k1 m o n=>if k1=k then .msl k' m o n else .msl k1 m o n
 | d=>d
def VK (P:Program) (S:St) (o:Oper):Option (St×List Prop):=match o.op with
 | .store t x y=>match o.dst with
  | none=>match Ac S.fr x with
   | .mp k 1 i 0=>match Ac S.fr y with
    | .it j=>match S.h[k]? with
     | some (some (.mo (.sets n ls none)))=>match S.h[j]? with
      | some (some (.mo (.set n' l)))=>if n'=n/\ (P.info? t).any (fun i=>i.size==1)=true then some (⟨S.fr.map (Kj k S.h.length),(S.h.set k none).set j none++[some (.mo (.sets n (ls.set i (some l)) none))]⟩,[i<ls.length]) else none
      | _=>none
     | _=>none
    | _=>none
   | _=>none
  | some _=>none
 | _=>none
theorem Eh.of_map {p:AN} {n:Nat} {ls:List (Option KS)} {lk:Option (Nat×Nat×Array MapEntry×Nat)} {vs:Array Value} (hS:Eh w p n ls lk vs) {i b:Nat} (h:vs[i]? =some (Value.map (some b))): ∃ l,ls[i]? =some (some l)/\ p.foot b/\ b≠p.blk/\ ∃ es Aa,EN w b n l es Aa:=by
 have hi:i<ls.length:=by rw [←hS.size];exact (xz.1 h).1
 cases hl:ls[i] with
 | none=>
  have:=hS.nil i (by rw [xy hi,hl]);rw [this] at h;cases h
 | some l=>
  have EY:ls[i]? =some (some l):=by rw [xy hi,hl]
  obtain ⟨b',g1,g2,g3,es,Aa,g4,_⟩:=hS.has i l EY;have:b'=b:=by rw [g1] at h;cases h;rfl
  subst this;exact ⟨l,EY,g3,g2,es,Aa,g4⟩
theorem jR (R:Ad P Γ N S ρ a w) {o:Oper} {S':St} {vs:List Prop} (h:VK P S o=some (S',vs)) (hv:Be vs):
 BS P (execOp a.eval o) w (fun v w'=>(∃ ρ',Ad P Γ N S' ρ' (a.put o.dst v) w'/\ Cn S.h ρ w S'.h ρ' w')/\ ∃ k i p t x y,o.op= .store t x y/\ Ac S.fr x= .mp k 1 i 0/\ ρ[k]? =some p/\ AP p.foot w w'):=by
 unfold VK at h;split at h
 case h_2=>cases h
 rename_i t x y ho;split at h
 case h_2=>cases h
 rename_i Xm;split at h
 case h_2=>cases h
 rename_i k i hX;split at h
 case h_2=>cases h
 rename_i j hY;split at h
 case h_2=>cases h
 rename_i n ls hK;split at h
 case h_2=>cases h
 rename_i n' l hJ;split at h
 case isFalse=>cases h
 rename_i hc;cases h;obtain ⟨tN,A9⟩:=hc;subst tN;have hi:i<ls.length:=hv.1;have rx:=Bh R x;have ry:=Bh R y;rw [hX] at rx;rw [hY] at ry;obtain ⟨p,hp,ex⟩:=rx;obtain ⟨q,es,Aa,hq,ey,de,hqv,hA⟩:=VU R hJ ry;obtain ⟨p',BJ,M6,hS⟩:=R.hr.obj k _ hK;have:p'=p:=yH (BJ.symm.trans hp);subst this;have Xd:k≠j:=fun e=>by subst e;rw [hK] at hJ;cases hJ
 obtain ⟨cs,ty,hb,Ey,CO,Cm⟩:=hS.row;cases Jn:P.info? t with
 | none=>rw [Jn] at A9;cases A9
 | some ti=>
 rw [Jn] at A9;have Nn:ti.size=1:=by simpa using A9
 have d6:i<M6.size:=by rw [hS.size];exact hi
 have XJ: ∀ b,p'.foot b -> b≠q.blk:=fun b hb e=>R.hr.dis k j _ _ p' q b Xd hK hJ hp hq hb (by rw [de];exact e)
 have YH:a.eval x= .pointer (some ⟨p'.blk,p'.off+i,none⟩):=by rw [ex];simp
 have Bj:w.cell? ⟨p'.blk,p'.off+i,none⟩=some M6[i]:=by
  unfold World.cell?;simp only [hb];rw [Cm i hi,yh d6];rfl
 have GP: ∀ jj,w.frozen? ⟨p'.blk,jj,none⟩=false:=fun jj=>by unfold World.frozen?;simp [hb]
 have hU:AP p'.foot w (w.setCells p'.blk (p'.off+i) (a.eval y).cells.toList):=(M8 _ _ _ _).mono fun b _ e=>by rw [show b=p'.blk from e];exact hS.blk
 refine BS.skip (s:=Instr.storeAt t (a.eval x) (a.eval y)) (by unfold execOp;rw [ho]) (w':=w.setCells p'.blk (p'.off+i) (a.eval y).cells.toList) ?_ ?_
 ·rw [YH];refine Vh Jn (by rw [ey,Nn];rfl) (fun jj Kx=>?_) GP (fun u hu=>?_)
  ·rw [ey] at Kx;have:jj=0:=by simpa [Value.cells] using Kx
   subst this;rw [zAJ,Bj];rfl
  ·rw [ey] at hu;have:u= .map (some q.blk):=by simpa [Value.cells] using hu
   subst this;rfl
 ·rw [Xm];rw [ey] at hU ⊢;have eC:(Value.map (some q.blk)).cells.toList= [Value.map (some q.blk)]:=rfl;rw [eC] at hU ⊢;obtain ⟨Ds,e1,e2,e3⟩:=Ny p'.blk ty (0,0) [Value.map (some q.blk)] (p'.off+i) w cs hb (by simp;omega)
  generalize hW:w.setCells p'.blk (p'.off+i) [Value.map (some q.blk)]=W at hU e1 ⊢
  have at_: ∀ {b ob},b≠p'.blk -> w.heap[b]? =some ob -> W.heap[b]? =some ob:=fun {b ob} Aw Cv=>by
   rw [←Cv,←hW];exact (M8 p'.blk [Value.map (some q.blk)] (p'.off+i) w).block b (xz.1 Cv).1 Aw
  have bK:q.blk≠p'.blk:=fun e=>XJ p'.blk hS.blk e.symm
  let BW:=M6.setIfInBounds i (Value.map (some q.blk))
  have HH: ∀ m:Nat,BW[m]? =if i=m then some (Value.map (some q.blk)) else M6[m]? :=fun m=>by
   show (M6.setIfInBounds i _)[m]? =_
   rw [yq]
   by_cases e:i=m
   ·rw [xw e,xw e,xw d6]
   ·rw [yK e,yK e]
  let p2:AN:=⟨p'.blk,p'.off,p'.room,.tuple BW,fun b=>b=p'.blk∨∃ m:Nat,BW[m]? =some (Value.map (some b))⟩
  have cT: ∀ {m:Nat} {z:Option KS},(ls.set i (some l))[m]? =some z -> (m=i/\ z=some l)∨(m≠i/\ ls[m]? =some z):=fun {m z} hm=>by
   rw [yn] at hm
   by_cases e:i=m
   ·subst e;simp [hi] at hm;exact .inl ⟨rfl,hm.symm⟩
   ·rw [yK e] at hm;exact .inr ⟨zAh e,hm⟩
  have SA:Eh W p2 n' (ls.set i (some l)) none BW:=by
   refine ⟨rfl,by simp [BW,hS.size],⟨Ds,ty,e1,by simpa [e2] using Ey,by rw [e2];exact CO,fun m hm=>?_⟩,.inl rfl,fun m l1 hm=>?_,fun m hm=>?_,fun b hb=>?_,fun m m' b h1 h2=>?_⟩
   ·rw [yW] at hm
    show Ds[p'.off+m]? =BW[m]?
    rw [e3,HH]
    by_cases e:i=m
    ·subst e;rw [xw (by simp),xw rfl];simp
    ·rw [yK (by simp;omega),yK e];exact Cm m hm
   ·rcases cT hm with ⟨rfl,e⟩ | ⟨Aw,hm⟩
    ·cases e;refine ⟨q.blk,by rw [HH,xw rfl],bK,.inr ⟨m,by rw [HH,xw rfl]⟩,es,Aa,{ hA with blk:=at_ bK hA.blk },fun x hx=>by cases hx⟩
    ·obtain ⟨b,k1,k2,k3,HO,c1,k4,_⟩:=hS.has m l1 hm;exact ⟨b,by rw [HH,yK (zAh Aw)];exact k1,k2,.inr ⟨m,by rw [HH,yK (zAh Aw)];exact k1⟩,HO,c1,{ k4 with blk:=at_ k2 k4.blk },fun x hx=>by cases hx⟩
   ·rcases cT hm with ⟨rfl,e⟩ | ⟨Aw,hm⟩
    ·cases e
    ·rw [HH,yK (zAh Aw)];exact hS.nil m hm
   ·rcases hb with hb | ⟨m,hm⟩
    ·exact .inl hb
    ·refine .inr ?_;have AC:=hm;rw [HH] at hm
     by_cases e:i=m
     ·subst e;exact ⟨i,l,by simp [hi],AC⟩
     ·rw [yK e] at hm;obtain ⟨l1,g1,_⟩:=hS.of_map hm;exact ⟨m,l1,by rw [yn,yK e];exact g1,AC⟩
   ·rw [HH] at h1 h2
    by_cases c1:i=m
    ·by_cases c2:i=m'
     ·omega
     ·rw [xw c1] at h1;rw [yK c2] at h2;cases h1;obtain ⟨_,_,g2,_⟩:=hS.of_map h2;exact absurd rfl (XJ _ g2)
    ·rw [yK c1] at h1
     by_cases c2:i=m'
     ·rw [xw c2] at h2;cases h2;obtain ⟨_,_,g2,_⟩:=hS.of_map h1;exact absurd rfl (XJ _ g2)
     ·rw [yK c2] at h2;exact hS.inj m m' b h1 h2
  have Ea: ∀ b,p2.foot b -> (p'.foot b∨q.foot b)/\ C7 W b:=fun b hb=>by
   refine ⟨?_,SA.lies hb⟩;rcases hb with hb | ⟨m,hm⟩
   ·exact .inl (by rw [hb];exact hS.blk)
   ·rw [HH] at hm
    by_cases e:i=m
    ·rw [xw e] at hm;cases hm;exact .inr (by rw [de])
    ·rw [yK e] at hm;exact .inl (hS.of_map hm).choose_spec.2.1
  obtain ⟨g1,g2⟩:=R.hr.merge (o':=.mo (.sets n' (ls.set i (some l)) none)) (p':=p2) Xd hK hp hJ hq hU Ea ⟨BW,SA⟩
  have O:Bc (MS N S.h ρ) w ρ (MS N ((S.h.set k none).set j none++[some (.mo (.sets n' (ls.set i (some l)) none))]) (ρ++[p2])) W (ρ++[p2]):=
   ⟨fun b hb hm _=>hU.block b hb fun hx=>hm (.inr ⟨k,_,p',hK,hp,hx⟩),fun b hb=>hb.elim (fun h=>.inl (.inl h)) (fun h=>(g2.grow b h).imp .inr id),fun k q hk=>D5 hk⟩
  refine ⟨⟨ρ++[p2],⟨g1,by simp [R.fr.1,Act.put],fun m hm=>?_⟩,g2,fun k q hk=>D5 hk⟩,k,i,p',t,x,y,ho,hX,hp,hU⟩;have CH:m<S.fr.length:=by simpa using hm
  have e:(S.fr.map (Kj k S.h.length)).getD m .any=Kj k S.h.length (S.fr.getD m .any):=by simp [CH]
  show AO _ W ((S.fr.map (Kj k S.h.length)).getD m .any) _ _
  rw [e];have r0:=R.fr.2 m CH;cases hd:S.fr.getD m .any with
  | msl k1 m1 o1 n1=>
   rw [hd] at r0
   by_cases hc:k1=k
   ·have e2:Kj k S.h.length (.msl k1 m1 o1 n1)= .msl S.h.length m1 o1 n1:=by simp only [Kj,xw hc]
    rw [e2];rw [hc] at r0;obtain ⟨q0,cap,df,rI,u1,u2,u3⟩:=r0;have ve:q0=p':=yH (df.symm.trans hp);subst ve;exact ⟨p2,cap,by rw [←R.hr.len];simp,rI,u1,u2,u3⟩
   ·have e2:Kj k S.h.length (.msl k1 m1 o1 n1)= .msl k1 m1 o1 n1:=by simp only [Kj,yK hc]
    rw [e2];exact AO.out _ O r0
  | _=>rw [hd] at r0;exact AO.out _ O r0
end
end Go.Proofs.YtgkhhfnhacibcaaGreatDoor
namespace Go.Proofs.YtgkhhfnhacibcaaGreatDoor
abbrev zAQ:=@List.mem_iff_getElem?
abbrev zAR:=@Array.getElem?_toList
abbrev zA8:=@Array.mem_toList_iff
end Go.Proofs.YtgkhhfnhacibcaaGreatDoor
namespace Go.Proofs.YtgkhhfnhacibcaaGreatDoor
open Go.RowKit
def Oh:DV:=.tup 0 (fun j=>([]:List DV).getD j .any)
theorem Rh {M:Nat -> Prop} {w:World} {ρ:List AN}:AO M w Oh ρ undef:=⟨#[],rfl,rfl,fun j hj=>absurd hj (yN j)⟩
def Dj (fr:List DV) (dst:Option Nat) (d:DV):List DV:=match dst with
 | some t=>fr.set t d
 | none=>fr
section
variable {P:Program} {Γ:BB} {N:Nat -> Prop} {S:St} {ρ:List AN} {a:Act} {w:World}
theorem Hh (R:Ad P Γ N S ρ a w) (dst:Option Nat) {d:DV} {v:Value} (hv:AO (MS N S.h ρ) w d ρ v):Ad P Γ N ⟨Dj S.fr dst d,S.h⟩ ρ (a.put dst v) w:=by
 refine ⟨R.hr,?_⟩;cases dst with
 | none=>exact R.fr
 | some t=>exact R.fr.set t hv
theorem Mg (R:Ad P Γ N S ρ a w) {d d':DV} {h':DH} {ext:Bool} {v:Value} {w':World} (dst:Option Nat) (G:C1 P Γ N S.h ρ w ext d h' v w') (hd: ∀ M ρ',AO M w' d ρ' v -> AO M w' d' ρ' v):
 ∃ ρ',Ad P Γ N ⟨Dj S.fr dst d',h'⟩ ρ' (a.put dst v) w'/\ Cn S.h ρ w h' ρ' w':=by
 obtain ⟨ρ',g1,g2,g3,g4⟩:=G.ex;have O:Bc (MS N S.h ρ) w ρ (MS N h' ρ') w' ρ':=⟨fun b hb hm _=>g3.upd.block b hb fun hx=>hm (.inr hx),fun b hb=>hb.elim (fun h=>.inl (.inl h)) (fun h=>(g3.grow b h).imp .inr id),g4⟩;have R':Ad P Γ N ⟨S.fr,h'⟩ ρ' a w':=⟨g1,R.fr.out O⟩;exact ⟨ρ',Hh R' dst (hd _ _ g2),g3,g4⟩
end
def PI (P:Program) (t:TypeId):Option (TypeId×TypeId):=match P.underlying t with
 | some (.map k e)=>if QM P k then match P.info? e with
  | some i=>match i.zero with
   | some (.slice none 0 0)=>some (k,e)
   | _=>none
  | none=>none
  else none
 | _=>none
theorem ak {P:Program} {t k e:TypeId} (h:PI P t=some (k,e)):P.underlying t=some (.map k e)/\ F0 P k=some 1/\ ∀ w,(zeroValue e).run P w= .ok (.slice none 0 0) w:=by
 unfold PI at h;split at h
 ·rename_i k' e' hu;split at h
  ·rename_i hk;split at h
   ·rename_i i hi;split at h
    ·rename_i hz;cases h;exact ⟨hu,by unfold F0;rw [Wu hk],fun w=>by simp [zeroValue,typeInfo,hi,hz]⟩
    ·cases h
   ·cases h
  ·cases h
 ·cases h
def Na (j q:Nat):DV -> DV
 | .mri k i=>if k=j then (if i=0 then .mri q 0 else .any) else .mri k i
 | d=>d
def LS (f:Int -> List Int) (k:Int) (L:List Int):Int -> List Int:=fun x=>if x=k then L else f x
def PJ (P:Program) (S:St) (o:Oper):Option (St×List Prop):=match o.op with
 | .makeMap t none=>match PI P t with
  | some _=>some (⟨Dj S.fr o.dst (.mri S.h.length 0),S.h++[some (.mo (.rows (fun _=>[]) none))]⟩,[])
  | none=>none
 | .lookup t m k false=>match PI P t with
  | some _=>match Ac S.fr m,Ac S.fr k with
   | .mri j 0,.int .i64 x=>match S.h[j]? with
    | some (some (.mo (.rows f Bo)))=>if Bo.all (fun y=>!y.2.2) then some (⟨Dj (S.fr.map (Na j S.h.length)) o.dst (.mri S.h.length 1),S.h.set j none++[some (.mo (.rows f (some (x,f x,false))))]⟩,[]) else none
    | _=>none
   | _,_=>none
  | none=>none
 | .mapUpdate t m k y=>match PI P t with
  | some _=>match Ac S.fr m,Ac S.fr k,Ac S.fr y with
   | .mri j 0,.int .i64 x,.mri j' 1=>match S.h[j]? with
    | some (some (.mo (.rows f (some (x',L,_)))))=>if j'=j then some (⟨Dj S.fr o.dst Oh,S.h.set j (some (.mo (.rows (LS f x' L) none)))⟩,[x'=x]) else none
    | _=>none
   | _,_,_=>none
  | none=>none
 | .call c=>match c.callee with
  | .builtin .append=>match c.args.toList with
   | [x,y]=>match c.argTypes.toList with
    | [t,t']=>if t=t' then match Jz P t with
     | some (.ints,_,i,_)=>if 128<i.bytes then none else match Ac S.fr x,QL S (Ac S.fr y) with
      | .mse j 1 off n,some (ys,vy)=>match S.h[j]? with
       | some (some (.ints xs))=>some (⟨Dj S.fr o.dst (.mse S.h.length 1 0 (n+ys.length)),S.h.set j none++[some (.ints (xs.drop off++ys))]⟩,[vy,0<ys.length,off+n=xs.length,n+ys.length<=As])
       | _=>none
      | .mri j 1,some (ys,vy)=>match S.h[j]? with
       | some (some (.mo (.rows f (some (x',L,_)))))=>some (⟨Dj (S.fr.map (Na j S.h.length)) o.dst (.mri S.h.length 1),S.h.set j none++[some (.mo (.rows f (some (x',L++ys,true))))]⟩,[vy,0<ys.length,L.length+ys.length<=As])
       | _=>none
      | _,_=>none
     | _=>none
     else none
    | _=>none
   | _=>none
  | _=>none
 | _=>none
theorem mL {P:Program} {S:St} {o:Oper} {r:St×List Prop} (h:PJ P S o=some r) {t:TypeId} {x y:Operand}:o.op≠.store t x y:=by
 intro e;unfold PJ at h;rw [e] at h;cases h
theorem B1.map {M:Nat -> Prop} {w:World} {ρ:List AN} {fr:List DV} {t:Array Value} (h:B1 M w ρ fr t) {g:DV -> DV} (hg: ∀ d v,AO M w d ρ v -> AO M w (g d) ρ v):B1 M w ρ (fr.map g) t:=
 ⟨by simp [h.1],fun i hi=>by
  have BM:i<fr.length:=by simpa using hi
  have e:(fr.map g).getD i .any=g (fr.getD i .any):=by simp [BM]
  rw [e];exact hg _ _ (h.2 i BM)⟩
section
variable {P:Program} {Γ:BB} {N:Nat -> Prop} {S:St} {ρ:List AN} {a:Act} {w w':World} {p p':AN} {f:Int -> List Int} {Bo:Option (Int×List Int×Bool)} {u:Value} {es:Array MapEntry} {Aa:Nat}
theorem b5 (h:D7 w p f Bo u es Aa) {kt:TypeId} (hk:P.underlying kt=some (.int .i64)) (x:Int):
 ((Instr.findKey kt (.int .i64 x) es.toList).run P w= .ok none w/\ ∀ e∈es.toList,e.key≠.int .i64 x)∨∃ j e,(Instr.findKey kt (.int .i64 x) es.toList).run P w= .ok (some (j,e.val)) w/\ es[j]? =some e/\ e.key= .int .i64 x:=by
 rcases MapKept.findNow_spec (d:=.int .i64) (k:=.int .i64 x) (by trivial) es.toList 0 (fun e hm=>by
  obtain ⟨k,hk,_⟩:=h.key e hm;rw [hk];trivial) with ⟨h1,h2⟩ | ⟨j,e,h1,h2,h3⟩
 ·exact .inl ⟨zAk hk h1,h2⟩
 ·exact .inr ⟨j,e,by have:=zAk (w:=w) hk h1;rw [yU] at this;exact this,by simpa using h2,h3⟩
theorem Sw (R:Ad P Γ N S ρ a w) {j i:Nat} {v:Value} (hk:S.h[j]? =some (some (.mo (.rows f Bo)))) (hv:AO (MS N S.h ρ) w (.mri j i) ρ v): ∃ p u es Aa,ρ[j]? =some p/\ D7 w p f Bo u es Aa/\ (#[Value.map (some p.blk),u]:Array Value)[i]? =some v:=by
 obtain ⟨p,vs,hp,GL,CZ⟩:=hv;obtain ⟨p',BJ,u,es,Aa,h1⟩:=R.hr.obj j _ hk;have:p'=p:=yH (BJ.symm.trans hp);subst this;have: #[Value.map (some p'.blk),u]=vs:=by have:=h1.val.symm.trans GL;cases this;rfl
 subst this;exact ⟨p',u,es,Aa,hp,h1,CZ⟩
theorem D7.lies (h:D7 w p f Bo u es Aa):C7 w p.blk:=⟨_,rfl,(),h.blk⟩
theorem aj (R:Ad P Γ N S ρ a w) {j:Nat} (hj:S.h[j]? =some (some (.mo (.rows f Bo)))) (hp:ρ[j]? =some p) (hO:D7 w p f Bo u es Aa) {f':Int -> List Int} {IA:Option (Int×List Int×Bool)} {u':Value} {De:Array MapEntry} {EM:Nat}
 (hu:AP p.foot w w') (hf: ∀ b,p'.foot b -> (p.foot b∨w.heap.size<=b)/\ C7 w' b) (Qg:D7 w' p' f' IA u' De EM) (Xu:p'.blk=p.blk) (dst:Option Nat):
 ∃ ρ',Ad P Γ N ⟨Dj (S.fr.map (Na j S.h.length)) dst (.mri S.h.length 1),S.h.set j none++[some (.mo (.rows f' IA))]⟩ ρ' (a.put dst u') w'/\ Cn S.h ρ w (S.h.set j none++[some (.mo (.rows f' IA))]) ρ' w':=by
 obtain ⟨g1,g2⟩:=R.hr.regrow (o':=.mo (.rows f' IA)) hj hp hu hf ⟨u',De,EM,Qg⟩;have FF: ∀ (k:Nat) (q:AN),ρ[k]? =some q -> (ρ++[p'])[k]? =some q:=fun k q hk=>D5 hk
 have O:Bc (MS N S.h ρ) w ρ (MS N (S.h.set j none++[some (.mo (.rows f' IA))]) (ρ++[p'])) w' (ρ++[p']):=
  ⟨fun b hb hm _=>hu.block b hb fun hx=>hm (.inr ⟨j,_,p,hj,hp,hx⟩),fun b hb=>hb.elim (fun h=>.inl (.inl h)) (fun h=>(g2.grow b h).imp .inr id),FF⟩
 have hq:(ρ++[p'])[S.h.length]? =some p':=by rw [←R.hr.len];simp
 have Dc:=(R.fr.out O).map (g:=Na j S.h.length) (fun d v hd=>by
  unfold Na;split
  ·rename_i k i;split
   ·rename_i e;split
    ·rename_i e2;subst e e2;obtain ⟨q,vs,h1,h2,h3⟩:=hd;have:q=p:=yH (h1.symm.trans (FF _ _ hp));subst this;have e3: #[Value.map (some q.blk),u]=vs:=by have:=hO.val.symm.trans h2;cases this;rfl
     subst e3;exact ⟨p',_,hq,Qg.val,by rw [Xu];simpa using h3⟩
    ·trivial
   ·exact hd
  ·exact hd)
 exact ⟨ρ++[p'],Hh (S:=⟨S.fr.map (Na j S.h.length),_⟩) ⟨g1,Dc⟩ dst ⟨p',_,hq,Qg.val,rfl⟩,g2,FF⟩
theorem ns (h:D7 w p f Bo u es Aa) (hh: ∀ k L,Bo≠some (k,L,true)) {t kt et:TypeId} (hm:P.underlying t=some (.map kt et)) (hk:F0 P kt=some 1) (hz:(zeroValue et).run P w= .ok (.slice none 0 0) w) (x:Int):
 ∃ u',(Instr.lookup t (.map (some p.blk)) (.int .i64 x) false).run P w= .ok u' w/\ D7 w { p with val:=.tuple #[Value.map (some p.blk),u'] } f (some (x,f x,false)) u' es Aa:=by
 have hu:P.underlying kt=some (.int .i64):=by
  rcases Ng hk with ⟨_,hu⟩ | ⟨_,_,_,h2,_⟩
  ·exact hu
  ·cases h2
 have hc:=fun e=>Nf (w:=w) hk (x:=[x]) rfl e
 have mk: ∀ u',(Gy w (fun b=>p.foot b/\ b≠p.blk) u' (f x)/\ ∀ e∈es.toList,∀ b,Cr u'=some b -> Cr e.val=some b -> e.key= .int .i64 x) -> D7 w { p with val:=.tuple #[Value.map (some p.blk),u'] } f (some (x,f x,false)) u' es Aa:=fun u' Bl=>
  ⟨rfl,h.blk,h.own,fun e he=>let ⟨k,h1,h2⟩:=h.key e he;⟨k,h1,fun _=>h2 fun L=>hh k L⟩,h.no,h.nd,h.apart,h.born,h.stamps,fun k L g e=>by cases e;exact Bl⟩
 rcases b5 h hu x with ⟨h1,h2⟩ | ⟨j,e,h1,h2,h3⟩
 ·refine ⟨.slice none 0 0,?_,mk _ ⟨.inl ⟨h.no x h2,rfl⟩,fun e _ b hb=>by cases hb⟩⟩;have Mb:=hc es.isEmpty;simp only [BL] at Mb;simp [Instr.lookup,yp hm,zV h.blk,Mb,h1,hz,Result.andThen]
 ·have CH:e∈es.toList:=zA8.2 (zy h2);obtain ⟨k,g1,g2⟩:=h.key e CH;have:k=x:=by rw [g1] at h3;cases h3;rfl
  subst this;refine ⟨e.val,?_,mk _ ⟨g2 fun L=>hh k L,fun e' F7 b hb Cd=>(h.apart e' F7 e CH b Cd hb).trans h3⟩⟩;have Mb:=hc es.isEmpty;simp only [BL] at Mb;simp [Instr.lookup,yp hm,zV h.blk,Mb,h1,Result.andThen]
theorem aE {F:Nat -> Prop} {L:List Int} (hs:Gy w F u L) {t e ty:TypeId} {i:TypeInfo} {z:Value} (hu:P.underlying t=some (.slice e)) (hi:P.info? e=some i) (hz:i.zero=some z) (A9:i.size=1) (CN:z.cells.size=i.size) (DD:i.bytes<=128)
 {vy:Value} {ys:List Int} (hy:Src P i.size t vy ys.length (ys.map (Value.int .i64)) w) (hc:0<ys.length) (hb:L.length+ys.length<=As):
 ∃ w' q Bs,(Builtin.append_ #[t,t] ty #[u,vy]).run P w= .ok (.slice (some ⟨q.blk,q.off,none⟩) (L++ys).length Bs) w'/\ (L++ys).length<=Bs/\ q.off+Bs<=q.room/\ AP (fun b=>Cr u=some b) w w'/\ (Cr u=some q.blk∨w.heap.size<=q.blk)/\ Ai w' q (L++ys).length (fun j v=>v= .int .i64 ((L++ys).getD j 0)):=by
 have A3:(L++ys).length=L.length+ys.length:=yc;rcases hs with ⟨rfl,rfl⟩ | ⟨q,cap,rfl,h1,h2,h3,h4,h5⟩
 ·obtain ⟨w',Bs,r1,r2,cs,rfl,r4,r5⟩:=Yr none (ty:=ty) hu hi hz CN DD hy hc (by unfold As at hb;simp at hb;omega);rw [A9,yz] at r4;refine ⟨_,Dm w cs.size,Bs,by simpa [Dm] using r1,by simpa using r2,by simp [Dm,r4],AP.ofExt ((At.toDrew w).allocR _),.inr (yS _),Li rfl (by simp;omega) fun j hj=>?_⟩;have BX:j<ys.length:=by simpa using hj
  refine ⟨.int .i64 (ys.getD j 0),?_,by simp⟩;rw [r5 j (by rw [A9,yz];exact BX)];simp [BX]
 ·obtain ⟨w',q',Bs,r1,r2,r3,r4,r5,r6⟩:=Yp (ty:=ty) (R:=fun j v=>v= .int .i64 (L.getD j 0)) (cap:=cap) hu hi hz (by omega) CN DD (by rw [A9,yz];exact h5) h1 (by rw [A9,yz];exact h2) hy (by unfold As at hb;omega);rw [A9,yz] at r3;have hq:q.foot=(fun b=>b=q.blk):=h5.1;have hR:=Wt (P:=P) (M:=fun _=>False) (ρ':=[]) A9 r6;refine ⟨w',q',Bs,by rw [A3];exact r1,by rw [A3];exact r2,r3,r4.mono fun b _ hb=>by rw [hq] at hb;rw [show b=q.blk from hb];rfl,?_,hR⟩;have Nt:=r6.1;rcases r5 q'.blk (by rw [Nt]) with e | e
  ·rw [hq] at e;exact .inl (by rw [show q'.blk=q.blk from e];rfl)
  ·exact .inr e
theorem nt (h:D7 w p f Bo u es Aa) {x:Int} {L:List Int} {g:Bool} (Ir:Bo=some (x,L,g)) (hl: ∀ b,p.foot b -> C7 w b) {t e ty:TypeId} {i:TypeInfo} {z:Value} (hu:P.underlying t=some (.slice e)) (hi:P.info? e=some i) (hz:i.zero=some z) (A9:i.size=1) (CN:z.cells.size=i.size) (DD:i.bytes<=128)
 {vy:Value} {ys:List Int} (hy:Src P i.size t vy ys.length (ys.map (Value.int .i64)) w) (hc:0<ys.length) (hb:L.length+ys.length<=As):
 ∃ w' u' p',(Builtin.append_ #[t,t] ty #[u,vy]).run P w= .ok u' w'/\ AP p.foot w w'/\ (∀ b,p'.foot b -> (p.foot b∨w.heap.size<=b)/\ C7 w' b)/\ D7 w' p' f (some (x,L++ys,true)) u' es Aa/\ p'.blk=p.blk:=by
 obtain ⟨hs,hd⟩:=h.inHand x L g Ir;have A3:(L++ys).length=L.length+ys.length:=yc;have Wa:=aE (ty:=ty) hs hu hi hz A9 CN DD hy hc hb;obtain ⟨w',q,Bs,r1,r2,r3,r4,r5,r6⟩:=Wa;have LT: ∀ b,Cr u=some b -> (p.foot b/\ b≠p.blk)/\ b<w.heap.size:=fun b hb=>hs.blk hb
 have F1: ∀ b,b<w.heap.size -> Cr u≠some b -> w'.heap[b]? =w.heap[b]? :=fun b hb hn=>r4.block b hb hn
 have MK:Cr u≠some p.blk:=fun e=>(LT _ e).1.2 rfl
 have XK:p.blk<w.heap.size:=(xz.1 h.blk).1;have XI:q.blk≠p.blk:=fun e=>r5.elim (fun e'=>MK (by rw [←e];exact e')) (fun e'=>by omega)
 refine ⟨w',_,⟨p.blk,p.off,p.room,.tuple #[Value.map (some p.blk),.slice (some ⟨q.blk,q.off,none⟩) (L++ys).length Bs],fun b=>(p.foot b/\ Cr u≠some b)∨b=q.blk⟩,r1,r4.mono fun b _ hb=>(LT b hb).1.1,fun b hb=>?_,?_,rfl⟩
 ·rcases hb with ⟨g1,g2⟩ | g1
  ·obtain ⟨c,t1,t2,hc⟩:=hl b g1;exact ⟨.inl g1,c,t1,t2,(F1 b (xz.1 hc).1 g2).trans hc⟩
  ·obtain ⟨_,cs,tt,g,_⟩:=r6;subst g1;exact ⟨r5.imp (fun e=>(LT _ e).1.1) id,.cells g⟩
 ·have GH: ∀ e'∈es.toList,∀ k,e'.key= .int .i64 k -> k≠x -> Gy w (fun b=>p.foot b/\ b≠p.blk) e'.val (f k):=fun e' he k hk Jr=>by
   obtain ⟨k',h1,h2⟩:=h.key e' he;have:k'=k:=by rw [h1] at hk;cases hk;rfl
   subst this;exact h2 fun L' e=>by rw [Ir] at e;cases e;exact Jr rfl
  refine ⟨rfl,(F1 _ XK MK).trans h.blk,.inl ⟨h.own,MK⟩,fun e' he=>?_,h.no,h.nd,h.apart,h.born,h.stamps,fun k L' g' e'=>?_⟩
  ·obtain ⟨k,h1,_⟩:=h.key e' he;refine ⟨k,h1,fun hn=>?_⟩;have hk:k≠x:=fun e=>by subst e;exact hn _ rfl
   have ne: ∀ b,Cr e'.val=some b -> Cr u≠some b:=fun b hb Cd=>hk (by have:=hd e' he b Cd hb;rw [h1] at this;cases this;rfl)
   exact (GH e' he k h1 hk).out (fun b hf hb hl=>F1 b hl (ne b hb)) fun b hf hb=>⟨.inl ⟨hf.1,ne b hb⟩,hf.2⟩
  ·cases e';refine ⟨.inr ⟨q,Bs,rfl,r2,r3,by unfold LB;unfold As at hb;omega,⟨.inr rfl,XI⟩,r6⟩,fun e' he b hb Cd=>?_⟩;cases hb;rcases r5 with r5 | r5
   ·exact hd e' he _ r5 Cd
   ·obtain ⟨k',h1,_⟩:=h.key e' he
    by_cases hk:k'=x
    ·subst hk;exact h1
    ·exact absurd ((GH e' he k' h1 hk).blk Cd).2 (Nat.not_lt.2 r5)
theorem nr (h:D7 w p f Bo u es Aa) {x:Int} {L:List Int} {g:Bool} (Ir:Bo=some (x,L,g)) {t kt et:TypeId} (hm:P.underlying t=some (.map kt et)) (hk:F0 P kt=some 1):
 ∃ w' De EM,(Instr.mapUpdate t (.map (some p.blk)) (.int .i64 x) u).run P w= .ok () w'/\ AP (fun b=>b=p.blk) w w'/\ D7 w' p (LS f x L) none u De EM:=by
 have hu:P.underlying kt=some (.int .i64):=by
  rcases Ng hk with ⟨_,hu⟩ | ⟨_,_,_,h2,_⟩
  ·exact hu
  ·cases h2
 have hc:=Nf (w:=w) hk (x:=[x]) rfl false;simp only [BL] at hc;obtain ⟨hs,hd⟩:=h.inHand x L g Ir;have AU:p.blk<w.heap.size:=(xz.1 h.blk).1
 have mk: ∀ (De:Array MapEntry) (EM:Nat),(∀ e∈De.toList,(e.key= .int .i64 x/\ e.val=u)∨(e∈es.toList/\ e.key≠.int .i64 x)) -> (∃ e∈De.toList,e.key= .int .i64 x) -> (∀ e∈es.toList,e.key≠.int .i64 x -> e∈De.toList) -> MapKept.Stamped De EM ->
  D7 { w with heap:=w.heap.setIfInBounds p.blk (.map De EM) } p (LS f x L) none u De EM:=fun De EM m1 m2 m3 st=>by
  have stay: ∀ b,b≠p.blk -> (w.heap.setIfInBounds p.blk (.map De EM))[b]? =w.heap[b]? :=fun b hb=>by simp [zAh hb]
  have GH: ∀ e'∈es.toList,∀ k,e'.key= .int .i64 k -> k≠x -> Gy w (fun b=>p.foot b/\ b≠p.blk) e'.val (f k):=fun e' he k hk Jr=>by
   obtain ⟨k',h1,h2⟩:=h.key e' he;have:k'=k:=by rw [h1] at hk;cases hk;rfl
   subst this;exact h2 fun L' e=>by rw [Ir] at e;cases e;exact Jr rfl
  refine ⟨h.val,by simp [AU],h.own,fun e he=>?_,fun k Cl=>?_,st.2.2,fun e he e' F7 b hb Cd=>?_,st.1,st.2.1,fun k L' g' e=>by cases e⟩
  ·rcases m1 e he with ⟨a1,a2⟩ | ⟨a1,a2⟩
   ·refine ⟨x,a1,fun _=>?_⟩;rw [a2];unfold LS;rw [xw rfl];exact hs.out (fun b hf _ _=>stay b hf.2) fun _ h _=>h
   ·obtain ⟨k,h1,_⟩:=h.key e a1;have Jr:k≠x:=fun e'=>a2 (by rw [h1,e'])
    refine ⟨k,h1,fun _=>?_⟩;unfold LS;rw [yK Jr];exact (GH e a1 k h1 Jr).out (fun b hf _ _=>stay b hf.2) fun _ h _=>h
  ·have Jr:k≠x:=fun e=>by subst e;obtain ⟨e,h1,h2⟩:=m2;exact Cl e h1 h2
   unfold LS;rw [yK Jr];refine h.no k fun e he d4=>?_
   exact Cl e (m3 e he fun h=>Jr (by rw [d4] at h;cases h;rfl)) d4
  ·rcases m1 e he with ⟨a1,a2⟩ | ⟨a1,a2⟩
   ·rcases m1 e' F7 with ⟨b1,b2⟩ | ⟨b1,b2⟩
    ·rw [a1,b1]
    ·rw [a2] at hb;exact a1.trans (hd e' b1 b hb Cd).symm
   ·rcases m1 e' F7 with ⟨b1,b2⟩ | ⟨b1,b2⟩
    ·rw [b2] at Cd;exact (hd e a1 b Cd hb).trans b1.symm
    ·exact h.apart e a1 e' b1 b hb Cd
 have st:MapKept.Stamped es Aa:=⟨h.born,h.stamps,h.nd⟩;rcases b5 h hu x with ⟨h1,h2⟩ | ⟨j,e,h1,h2,h3⟩
 ·refine ⟨_,es.push { key:=.int .i64 x,val:=u,born:=Aa },Aa+1,?_,Og _,mk _ _ (fun e he=>?_) ⟨{ key:=.int .i64 x,val:=u,born:=Aa },by simp,rfl⟩ (fun e he _=>by simp [zA8.1 he]) (MapKept.stamped_push st h2)⟩
  ·simp [Instr.mapUpdate,yp hm,zV h.blk,hc,h1,zAL _ h.blk,Result.andThen]
  ·simp only [Array.toList_push,yx,yZ] at he;rcases he with he | rfl
   ·exact .inr ⟨he,h2 e he⟩
   ·exact .inl ⟨rfl,rfl⟩
 ·have Dq:((es[j]?).map (·.key)).getD (.int .i64 x)= .int .i64 x:=by rw [h2];exact h3
  have D1:=MapKept.run_keyThatStays (P:=P) (w:=w) (d:=.int .i64) (k:=.int .i64 x) (by trivial);have hj:j<es.size:=(xz.1 h2).1
  have inj: ∀ (m:Nat) (e':MapEntry),es[m]? =some e' -> e'.key= .int .i64 x -> m=j:=fun m e' CH Cl=>by
   have FG:m<es.size:=(xz.1 CH).1;have g1:(es.toList.map (·.key))[m]? =some (.int .i64 x):=by simp [CH,Cl]
   have g2:(es.toList.map (·.key))[j]? =some (.int .i64 x):=by simp [h2,h3]
   exact (List.getElem?_inj (by simpa using FG) h.nd).1 (g1.trans g2.symm)
  have H7: ∀ (m:Nat),(es.modify j fun e=>{ e with key:=.int .i64 x,val:=u })[m]? =if j=m then (es[m]?).map (fun e=>{ e with key:=.int .i64 x,val:=u }) else es[m]? :=fun m=>z2
  refine ⟨_,es.modify j fun e=>{ e with key:=.int .i64 x,val:=u },Aa,?_,Og _,mk _ _ (fun e1 Xl=>?_) ⟨{ e with key:=.int .i64 x,val:=u },?_,rfl⟩ (fun e1 Xl Aw=>?_) (MapKept.stamped_modify st _ _ (fun _ _=>rfl) fun e' _ F7=>by rw [h2] at F7;cases F7;exact h3.symm)⟩
  ·simp [Instr.mapUpdate,yp hm,zV h.blk,hc,h1,Dq,D1,zAL _ h.blk,Result.andThen]
  ·obtain ⟨m,CH⟩:=zAQ.1 Xl;rw [zAR,H7] at CH;split at CH
   ·rename_i Xg;subst Xg;rw [h2] at CH;cases CH;exact .inl ⟨rfl,rfl⟩
   ·rename_i Xg;exact .inr ⟨zA8.2 (zy CH),fun Cl=>Xg (inj m e1 CH Cl).symm⟩
  ·exact zAQ.2 ⟨j,by rw [zAR,H7,xw rfl,h2];rfl⟩
  ·obtain ⟨m,CH⟩:=zAQ.1 Xl;rw [zAR] at CH;refine zAQ.2 ⟨m,by rw [zAR,H7,yK];exact CH;rintro rfl;rw [h2] at CH;cases CH;exact Aw h3⟩
theorem oY (R:Ad P Γ N S ρ a w) {j off n:Nat} {xs:List Int} {v:Value} (hO:S.h[j]? =some (some (.ints xs))) (hv:AO (MS N S.h ρ) w (.mse j 1 off n) ρ v) (hn:off+n=xs.length) {t e ty:TypeId} {i:TypeInfo} {z:Value} (hu:P.underlying t=some (.slice e)) (hi:P.info? e=some i) (hz:i.zero=some z) (A9:i.size=1) (CN:z.cells.size=i.size) (DD:i.bytes<=128)
 {vy:Value} {ys:List Int} (hy:Src P i.size t vy ys.length (ys.map (Value.int .i64)) w) (hc:0<ys.length) (hb:n+ys.length<=As):
 ∃ u w' p' Bs,v=u/\ (Builtin.append_ #[t,t] ty #[u,vy]).run P w= .ok (.slice (some ⟨p'.blk,p'.off,none⟩) (n+ys.length) Bs) w'/\ n+ys.length<=Bs/\ p'.off+Bs<=p'.room/\ (∃ p,ρ[j]? =some p/\ AP p.foot w w'/\ ∀ b,p'.foot b -> (p.foot b∨w.heap.size<=b)/\ C7 w' b)/\
  (∀ {M ρ'},DW P M w' ρ' p' (.ints (xs.drop off++ys)))/\ True:=by
 obtain ⟨p,ad,cap,hp,rfl,h1,h2,h3⟩:=hv;obtain ⟨p2,ML,hr⟩:=R.hr.obj j _ hO;have:p2=p:=yH (ML.symm.trans hp);subst this;have MW:(xs.drop off).length=n:=by simp;omega
 have Wa: ∃ w' p' Bs,(Builtin.append_ #[t,t] ty #[.slice ad n cap,vy]).run P w= .ok (.slice (some ⟨p'.blk,p'.off,none⟩) (n+ys.length) Bs) w'/\ n+ys.length<=Bs/\ p'.off+Bs*i.size<=p'.room/\ AP p2.foot w w'/\ (∀ b,p'.foot b -> p2.foot b∨w.heap.size<=b)/\ Ai w' p' ((n+ys.length)*i.size) (HT (n*i.size) (fun j u=>u= .int .i64 ((xs.drop off).getD j 0)) (ys.map (Value.int .i64))):=by
  by_cases Kz:cap=0
  ·subst Kz;have HK:n=0:=by omega
   subst HK;obtain ⟨w',Bs,r1,r2,cs,rfl,r4,r5⟩:=Yr ad (ty:=ty) hu hi hz CN DD hy hc (by unfold As at hb;omega);refine ⟨_,Dm w cs.size,Bs,by simpa [Dm] using r1,by omega,by simp [Dm,r4],AP.ofExt ((At.toDrew w).allocR _),fun b hb=>.inr (Nat.le_of_eq (Eq.symm hb)),Li rfl ?_ fun j hj=>?_⟩
   ·rw [r4];exact zh _ (by omega)
   ·rw [yU] at hj;refine ⟨(ys.map (Value.int .i64)).getD j undef,?_,?_⟩
    ·rw [r5 j hj];rw [A9,yz] at hj;simp [hj]
    ·rw [A9,yz] at hj;unfold HT;rw [yK (by omega)];simp [hj]
  ·obtain ⟨rfl,h4⟩:=h3 (by omega);obtain ⟨c1,cs,tt,c2,c3,c4,c5⟩:=hr
   exact Yp (ty:=ty) (p:={ p2 with off:=p2.off+off*1 }) (cap:=cap) hu hi hz (by omega) CN DD (R:=fun j u=>u= .int .i64 ((xs.drop off).getD j 0)) (by
    refine ⟨c1,cs,tt,c2,?_,c4,fun j hj=>?_⟩
    ·rw [A9];show p2.off+off*1+n*1<=cs.size;omega
    ·rw [A9,yz] at hj;obtain ⟨u,q1,q2⟩:=c5 (off+j) (by omega);refine ⟨u,by show cs[p2.off+off*1+j]? =_;rw [show p2.off+off*1+j=p2.off+(off+j) by omega];exact q1,?_⟩;rw [q2];simp [u8]) h1 (by rw [A9];simpa using h4) hy (by unfold As at hb;omega)
 obtain ⟨w',p',Bs,r1,r2,r3,r4,r5,r6⟩:=Wa;rw [A9,yz] at r3;refine ⟨_,w',p',Bs,rfl,r1,r2,r3,⟨p2,hp,r4,fun b hb=>⟨r5 b hb,?_⟩⟩,fun {M ρ'}=>Wt (xs:=xs.drop off) (ys:=ys) A9 (by rw [MW];exact r6),trivial⟩;obtain ⟨e1,cs,tt,e2,_⟩:=r6;rw [e1] at hb;exact .cells (c:=cs) (t:=tt) (z:=(0,0)) (by rw [show b=p'.blk from hb];exact e2)
theorem mK (R:Ad P Γ N S ρ a w) {o:Oper} {S':St} {vs:List Prop} (h:PJ P S o=some (S',vs)) (hv:Be vs):
 BS P (execOp a.eval o) w (fun v w'=>∃ ρ',Ad P Γ N S' ρ' (a.put o.dst v) w'/\ Cn S.h ρ w S'.h ρ' w'):=by
 unfold PJ at h;split at h
 ·rename_i t ho;split at h
  ·rename_i r hT;cases h;refine BS.value (s:=Instr.makeMap t none) (by unfold execOp;rw [ho];rfl) (v:=.map (some w.heap.size)) (w':=w.alloc (.map #[] 0)) (by simp [Instr.makeMap,newObj];rfl) ?_;have G:=Qj (ob:=.map #[] 0) (o:=.mo (.rows (fun _=>[]) none)) (d:=.mri S.h.length 0) (v:=.map (some w.heap.size)) (pl:=⟨w.heap.size,0,0,.tuple #[.map (some w.heap.size),undef],fun b=>b=w.heap.size⟩) R.hr rfl rfl (fun M ρ'=>⟨undef,#[],0,rfl,zx w _,rfl,fun e he=>absurd he (by simp),fun _ _=>rfl,by simp,fun e he=>absurd he (by simp),fun e he=>absurd he (by simp),by simp,fun k L g e=>by cases e⟩) (fun M ρ' hp=>⟨_,_,hp,rfl,rfl⟩) true;exact Mg R o.dst G fun _ _ h=>h
  ·cases h
 ·rename_i t m k ho;split at h
  ·rename_i r hT;obtain ⟨kt,et⟩:=r;obtain ⟨hu,hk,hz⟩:=ak hT;have rm:=Bh R m;have rk:=Bh R k;split at h
   ·rename_i j x hM hK;split at h
    ·rename_i f Bo hO;split at h
     ·rename_i hh;cases h;rw [hM] at rm;rw [hK] at rk;obtain ⟨p,u,es,Aa,hp,hA,CZ⟩:=Sw R hO rm;have em:a.eval m= .map (some p.blk):=by simpa using CZ.symm
      have ek:a.eval k= .int .i64 x:=rk;obtain ⟨u',g1,g2⟩:=ns hA (fun k L e=>by subst e;simp at hh) hu hk (hz w) x;refine BS.value (s:=Instr.lookup t (a.eval m) (a.eval k) false) (by unfold execOp;rw [ho]) (by rw [em,ek];exact g1) ?_;exact aj (p':={ p with val:=.tuple #[Value.map (some p.blk),u'] }) R hO hp hA (AP.refl _ _) (fun b hb=>⟨.inl hb,(R.hr.cel j _ p b hO hp hb).2.2⟩) g2 rfl o.dst
     ·cases h
    ·cases h
   ·cases h
  ·cases h
 ·rename_i t m k y ho;split at h
  ·rename_i r hT;obtain ⟨kt,et⟩:=r;obtain ⟨hu,hk,hz⟩:=ak hT;have rm:=Bh R m;have rk:=Bh R k;have ry:=Bh R y;split at h
   ·rename_i j x j' hM hK hY;split at h
    ·rename_i f x' L g hO;split at h
     ·rename_i hj;cases h;subst hj;have hx:x'=x:=hv.1;subst hx;rw [hM] at rm;rw [hK] at rk;rw [hY] at ry;obtain ⟨p,u,es,Aa,hp,hA,CZ⟩:=Sw R hO rm;obtain ⟨p2,u2,es2,clock2,ML,uh,rC⟩:=Sw R hO ry;have:p2=p:=yH (ML.symm.trans hp);subst this;have eu:u2=u:=by have:=uh.val.symm.trans hA.val;simp at this;exact this
      have em:a.eval m= .map (some p2.blk):=by simpa using CZ.symm
      have ek:a.eval k= .int .i64 x':=rk;have ey:a.eval y=u:=by rw [←eu];simpa using rC.symm
      obtain ⟨w',De,EM,g1,g2,g3⟩:=nr hA rfl hu hk;refine BS.skip (s:=Instr.mapUpdate t (a.eval m) (a.eval k) (a.eval y)) (by unfold execOp;rw [ho]) (w':=w') (by rw [em,ek,ey];exact g1) ?_;have Ks:AP p2.foot w w':=g2.mono fun b _ hb=>by rw [show b=p2.blk from hb];exact hA.own
      have hl: ∀ b,p2.foot b -> C7 w' b:=fun b hb=>by
       by_cases e:b=p2.blk
       ·rw [e];exact g3.lies
       ·obtain ⟨c,t1,t2,hc⟩:=(R.hr.cel _ _ p2 b hO hp hb).2.2;exact ⟨c,t1,t2,(g2.block b (xz.1 hc).1 e).trans hc⟩
      have G:C1 P Γ N S.h ρ w false Oh (S.h.set j' (some (.mo (.rows (LS f x' L) none)))) undef w':=⟨⟨ρ,R.hr.write hO hp Ks hl ⟨u,De,EM,g3⟩,Rh,BN.write hO hp Ks,fun _ _ h=>h⟩,fun h=>by cases h⟩;exact Mg R o.dst G fun _ _ h=>h
     ·cases h
    ·cases h
   ·cases h
  ·cases h
 ·rename_i c ho;split at h
  ·rename_i hc;split at h
   ·rename_i x y ha;split at h
    ·rename_i t t' ht;split at h
     ·rename_i e;subst e;split at h
      ·rename_i e i z hk;obtain ⟨hu,hi,hz,h0,CN,Dq,_⟩:=Qx hk;have CU:i.size=1:=Dq.symm;split at h
       ·cases h
       ·rename_i DD;have rx:=Bh R x;have ry:=Bh R y;split at h
        ·rename_i j off n ys vy hX hY;split at h
         ·rename_i xs hO;cases h;obtain ⟨v1,v2,v3,v4,_⟩:=hv;rw [hX] at rx;obtain ⟨ad,w',p',Bs,e0,g1,g2,g3,g4,g5,_⟩:=oY (ty:=o.type) R hO rx v3 hu hi hz CU CN (by omega) (by rw [CU];exact QK R hu ry hY v1) v2 v4;refine BS.value (Qr ho hc ha ht) (by rw [e0];exact g1) ?_;obtain ⟨p,hp⟩:=g4;obtain ⟨q1,q2⟩:=R.hr.regrow (o':=.ints (xs.drop off++ys)) hO hp.1 hp.2.1 hp.2.2 g5
          have G:C1 P Γ N S.h ρ w false (.mse S.h.length 1 0 (n+ys.length)) (S.h.set j none++[some (.ints (xs.drop off++ys))]) (.slice (some ⟨p'.blk,p'.off,none⟩) (n+ys.length) Bs) w':=
           ⟨⟨ρ++[p'],q1,⟨p',_,Bs,by rw [←R.hr.len];simp,rfl,g2,by unfold LB;unfold As at v4;omega,fun _=>⟨by simp,by simpa using g3⟩⟩,q2,fun _ _ h=>D5 h⟩,fun h=>by cases h⟩
          exact Mg R o.dst G fun _ _ h=>h
         ·cases h
        ·rename_i j ys vy hX hY;split at h
         ·rename_i f x' L g hO;cases h;obtain ⟨v1,v2,v3,_⟩:=hv;rw [hX] at rx;obtain ⟨p,u,es,Aa,hp,hA,CZ⟩:=Sw R hO rx;have ex:a.eval x=u:=by simpa using CZ.symm
          obtain ⟨w',u',p',g1,g2,g3,g4,g5⟩:=nt (ty:=o.type) hA rfl (fun b hb=>(R.hr.cel j _ p b hO hp hb).2.2) hu hi hz CU CN (by omega) (by rw [CU];exact QK R hu ry hY v1) v2 v3;refine BS.value (Qr ho hc ha ht) (by rw [ex];exact g1) ?_;exact aj R hO hp hA g2 g3 g4 g5 o.dst
         ·cases h
        ·cases h
      ·cases h
     ·cases h
    ·cases h
   ·cases h
  ·cases h
 ·cases h
def VJ (P:Program) (S:St) (o:Oper):Option (St×List Prop):=match VK P S o with
 | some r=>some r
 | none=>PJ P S o
theorem Z5 (R:Ad P Γ N S ρ a w) {o:Oper} {S':St} {vs:List Prop} (h:VJ P S o=some (S',vs)) (hv:Be vs):
 BS P (execOp a.eval o) w (fun v w'=>(∃ ρ',Ad P Γ N S' ρ' (a.put o.dst v) w'/\ Cn S.h ρ w S'.h ρ' w')/\ ((∀ t x y,o.op≠.store t x y)∨∃ k i p t x y,o.op= .store t x y/\ Ac S.fr x= .mp k 1 i 0/\ ρ[k]? =some p/\ AP p.foot w w')):=by
 have wk: ∀ {G G':Value -> World -> Prop},(∀ v w',G v w' -> G' v w') -> BS P (execOp a.eval o) w G -> BS P (execOp a.eval o) w G':=fun hg D=>by
  rcases D with ⟨v,w',h1,h2⟩ | ⟨w',h1,h2⟩ | ⟨f,args,w',h1,h2⟩
  ·exact .inl ⟨v,w',h1,hg _ _ h2⟩
  ·exact .inr (.inl ⟨w',h1,hg _ _ h2⟩)
  ·exact .inr (.inr ⟨f,args,w',h1,h2.mono fun e B7 ⟨v,e1,e2⟩=>⟨v,e1,hg _ _ e2⟩⟩)
 unfold VJ at h;split at h
 ·rename_i r hM;cases h;exact wk (fun v w' hx=>⟨hx.1,.inr hx.2⟩) (jR R hM hv)
 ·exact wk (fun v w' hx=>⟨hx,.inl fun t x y=>mL h⟩) (mK R h hv)
end
end Go.Proofs.YtgkhhfnhacibcaaGreatDoor
namespace Go.Proofs.YtgkhhfnhacibcaaGreatDoor
abbrev zG:=@List.getElem?_set_ne
abbrev zAB:=@Array.getElem?_setIfInBounds_ne
end Go.Proofs.YtgkhhfnhacibcaaGreatDoor
namespace Go.Proofs.YtgkhhfnhacibcaaGreatDoor
open Go.RowKit
def Vc (P:Program) (t:TypeId):Option (TypeId×TypeInfo):=match P.underlying t with
 | some (.slice e)=>match P.info? e with
  | some i=>match i.zero with
   | some (.slice none 0 0)=>if i.size=1/\ i.bytes<=128 then some (e,i) else none
   | _=>none
  | none=>none
 | _=>none
theorem lW {P:Program} {t e:TypeId} {i:TypeInfo} (h:Vc P t=some (e,i)):P.underlying t=some (.slice e)/\ P.info? e=some i/\ i.zero=some (.slice none 0 0)/\ i.size=1/\ i.bytes<=128:=by
 unfold Vc at h;split at h
 ·rename_i e' hu;split at h
  ·rename_i i' hi;split at h
   ·rename_i hz;split at h
    ·rename_i hc;cases h;exact ⟨hu,hi,hz,hc.1,hc.2⟩
    ·cases h
   ·cases h
  ·cases h
 ·cases h
def NZ (j q:Nat):DV -> DV
 | .msl k m o n=>if k=j then .msl q m o n else .msl k m o n
 | .mp k m i c=>if k=j then .mp q m i c else .mp k m i c
 | .mri k i=>if k=j then .any else .mri k i
 | d=>d
def Vd (P:Program) (S:St) (fz:List (Nat×Fz)) (o:Oper):Option (St×List Prop×List (Nat×Fz)):=match o.op with
 | .makeSlice t x y=>match fz with
  | (d,.rws)::rest=>if o.dst=some d then match Vc P t with
   | some _=>match Ac S.fr x,Ac S.fr y with
    | .int _ m,.int _ m'=>some (⟨Dj S.fr o.dst (.msl S.h.length 1 0 m.toNat),S.h++[some (.mo (.rws (List.replicate m.toNat []) none))]⟩,[m'=m/\ 0<=m/\ m<=1000000000000],rest)
    | _,_=>none
   | none=>none
   else none
  | _=>none
 | .call c=>match c.callee with
  | .builtin .append=>match c.args.toList with
   | [x,y]=>match c.argTypes.toList with
    | [t,t']=>if t=t' then match Jz P t with
     | some (.ints,_,i,_)=>if 128<i.bytes then none else match Ac S.fr x,QL S (Ac S.fr y) with
      | .mri j (r+1),some (ys,vy)=>match S.h[j]? with
       | some (some (.mo (.rws ls none)))=>some (⟨Dj (S.fr.map (NZ j S.h.length)) o.dst (.mri S.h.length 0),S.h.set j none++[some (.mo (.rws ls (some (r,ls.getD r default++ys))))]⟩,[vy,0<ys.length,r<ls.length,(ls.getD r default).length+ys.length<=As],fz)
       | _=>none
      | _,_=>none
     | _=>none
     else none
    | _=>none
   | _=>none
  | _=>none
 | .store t x y=>match o.dst with
  | none=>match Ac S.fr x,Ac S.fr y with
   | .mp j 1 r 0,.mri j' 0=>match S.h[j]? with
    | some (some (.mo (.rws ls (some (r',L)))))=>if j'=j/\ (P.info? t).any (fun i=>i.size==1)=true then some (⟨S.fr.map (NZ j S.h.length),S.h.set j none++[some (.mo (.rws (ls.set r L) none))]⟩,[r'=r,r<ls.length],fz) else none
    | _=>none
   | _,_=>none
  | some _=>none
 | _=>none
section
variable {P:Program} {Γ:BB} {N:Nat -> Prop} {S:St} {ρ:List AN} {a:Act} {w w':World} {p p':AN} {ls P4:List (List Int)} {Bo IA:Option (Nat×List Int)} {vs BW:Array Value}
theorem ab (R:Ad P Γ N S ρ a w) {j i:Nat} {v:Value} (hk:S.h[j]? =some (some (.mo (.rws ls Bo)))) (hv:AO (MS N S.h ρ) w (.mri j i) ρ v): ∃ p vs,ρ[j]? =some p/\ I3 w p ls Bo vs/\ vs[i]? =some v:=by
 obtain ⟨p,vs,hp,GL,CZ⟩:=hv;obtain ⟨p',BJ,BW,h1⟩:=R.hr.obj j _ hk;have:p'=p:=yH (BJ.symm.trans hp);subst this;have:BW=vs:=by have:=h1.val.symm.trans GL;cases this;rfl
 subst this;exact ⟨p',BW,hp,h1,CZ⟩
theorem aa (R:Ad P Γ N S ρ a w) {j:Nat} (hj:S.h[j]? =some (some (.mo (.rws ls Bo)))) (hp:ρ[j]? =some p) (hu:AP p.foot w w') (hf: ∀ b,p'.foot b -> (p.foot b∨w.heap.size<=b)/\ C7 w' b) (Qg:I3 w' p' P4 IA BW)
 (e1:p'.blk=p.blk) (e2:p'.off=p.off) (e3:p'.room=p.room) (dst:Option Nat) {d:DV} {v:Value} (hd: ∀ M ρ',ρ'[S.h.length]? =some p' -> AO M w' d ρ' v):
 ∃ ρ',Ad P Γ N ⟨Dj (S.fr.map (NZ j S.h.length)) dst d,S.h.set j none++[some (.mo (.rws P4 IA))]⟩ ρ' (a.put dst v) w'/\ Cn S.h ρ w (S.h.set j none++[some (.mo (.rws P4 IA))]) ρ' w':=by
 obtain ⟨g1,g2⟩:=R.hr.regrow (o':=.mo (.rws P4 IA)) hj hp hu hf ⟨BW,Qg⟩;have FF: ∀ (k:Nat) (q:AN),ρ[k]? =some q -> (ρ++[p'])[k]? =some q:=fun k q hk=>D5 hk
 have O:Bc (MS N S.h ρ) w ρ (MS N (S.h.set j none++[some (.mo (.rws P4 IA))]) (ρ++[p'])) w' (ρ++[p']):=
  ⟨fun b hb hm _=>hu.block b hb fun hx=>hm (.inr ⟨j,_,p,hj,hp,hx⟩),fun b hb=>hb.elim (fun h=>.inl (.inl h)) (fun h=>(g2.grow b h).imp .inr id),FF⟩
 have hq:(ρ++[p'])[S.h.length]? =some p':=by rw [←R.hr.len];simp
 have Dc:=(R.fr.out O).map (g:=NZ j S.h.length) (fun d v hd=>by
  unfold NZ;split
  ·rename_i k m o n;split
   ·rename_i e;subst e;obtain ⟨q,cap,h1,h2,h3,h4,h5⟩:=hd;have:q=p:=yH (h1.symm.trans (FF _ _ hp));subst this;exact ⟨p',cap,hq,by rw [e1,e2];exact h2,h3,h4,by rw [e2,e3];exact h5⟩
   ·exact hd
  ·rename_i k m i c;split
   ·rename_i e;subst e;obtain ⟨q,h1,h2⟩:=hd;have:q=p:=yH (h1.symm.trans (FF _ _ hp));subst this;exact ⟨p',hq,by rw [e1,e2];exact h2⟩
   ·exact hd
  ·split
   ·trivial
   ·exact hd
  ·exact hd)
 exact ⟨ρ++[p'],Hh (S:=⟨S.fr.map (NZ j S.h.length),_⟩) ⟨g1,Dc⟩ dst (hd _ _ hq),g2,FF⟩
theorem lV (h:I3 w p ls none vs) {r:Nat} (hr:r<ls.length) (hl: ∀ b,p.foot b -> C7 w b) {t e ty:TypeId} {i:TypeInfo} {z:Value} (hu:P.underlying t=some (.slice e)) (hi:P.info? e=some i) (hz:i.zero=some z) (A9:i.size=1) (CN:z.cells.size=i.size) (DD:i.bytes<=128)
 {vy:Value} {ys:List Int} (hy:Src P i.size t vy ys.length (ys.map (Value.int .i64)) w) (hc:0<ys.length) (hb:(ls.getD r default).length+ys.length<=As):
 ∃ w' u' p',(Builtin.append_ #[t,t] ty #[vs.getD (r+1) undef,vy]).run P w= .ok u' w'/\ AP p.foot w w'/\ (∀ b,p'.foot b -> (p.foot b∨w.heap.size<=b)/\ C7 w' b)/\ I3 w' p' ls (some (r,ls.getD r default++ys)) (vs.setIfInBounds 0 u')/\ p'.blk=p.blk/\ p'.off=p.off/\ p'.room=p.room:=by
 have hs:=h.has r hr fun L e=>by cases e
 obtain ⟨w',q,Bs,r1,r2,r3,r4,r5,r6⟩:=aE (ty:=ty) hs hu hi hz A9 CN DD hy hc hb
 generalize hU:vs.getD (r+1) undef=u at*
 have LT: ∀ b,Cr u=some b -> (p.foot b/\ b≠p.blk)/\ b<w.heap.size:=fun b hb=>hs.blk hb
 have F1: ∀ b,b<w.heap.size -> Cr u≠some b -> w'.heap[b]? =w.heap[b]? :=fun b hb hn=>r4.block b hb hn
 have MK:Cr u≠some p.blk:=fun e=>(LT _ e).1.2 rfl
 obtain ⟨cs,tt,k1,k2,k3,k4⟩:=h.row;have XK:p.blk<w.heap.size:=(xz.1 k1).1;have XI:q.blk≠p.blk:=fun e=>r5.elim (fun e'=>MK (by rw [←e];exact e')) (fun e'=>by omega)
 have hv: ∀ j,(vs.setIfInBounds 0 (.slice (some ⟨q.blk,q.off,none⟩) (ls.getD r default++ys).length Bs)).getD (j+1) undef=vs.getD (j+1) undef:=fun j=>by
  simp [yV,yq]
 have Nm:(vs.setIfInBounds 0 (.slice (some ⟨q.blk,q.off,none⟩) (ls.getD r default++ys).length Bs)).getD 0 undef= .slice (some ⟨q.blk,q.off,none⟩) (ls.getD r default++ys).length Bs:=by
  have:0<vs.size:=by rw [h.size];omega
  simp [yV,yq,this]
 have ne: ∀ j b,j<ls.length -> j≠r -> Cr (vs.getD (j+1) undef)=some b -> Cr u≠some b:=fun j b hj Aw hb Cd=>Aw (h.apart j r b hj hr (fun L e=>by cases e) (fun L e=>by cases e) hb (by rw [hU];exact Cd))
 refine ⟨w',_,⟨p.blk,p.off,p.room,.tuple (vs.setIfInBounds 0 (.slice (some ⟨q.blk,q.off,none⟩) (ls.getD r default++ys).length Bs)),fun b=>(p.foot b/\ Cr u≠some b)∨b=q.blk⟩,r1,r4.mono fun b _ hb=>(LT b hb).1.1,fun b hb=>?_,?_,rfl,rfl,rfl⟩
 ·rcases hb with ⟨g1,g2⟩ | g1
  ·obtain ⟨c,t1,t2,hc⟩:=hl b g1;exact ⟨.inl g1,c,t1,t2,(F1 b (xz.1 hc).1 g2).trans hc⟩
  ·obtain ⟨_,cs,tt,g,_⟩:=r6;subst g1;exact ⟨r5.imp (fun e=>(LT _ e).1.1) id,.cells g⟩
 ·refine ⟨rfl,by simpa using h.size,⟨cs,tt,(F1 _ XK MK).trans k1,k2,k3,fun j hj=>?_⟩,.inl ⟨h.blk,MK⟩,fun j hj hh=>?_,fun i j b hi hj _ _ h1 h2=>?_,fun k L e=>?_⟩
  ·rw [zAB (by omega)];exact k4 j hj
  ·have Aw:j≠r:=fun e=>hh _ (by rw [e])
   rw [hv];exact (h.has j hj fun L e=>by cases e).out (fun b hf hb hl=>F1 b hl (ne j b hj Aw hb)) fun b hf hb=>⟨.inl ⟨hf.1,ne j b hj Aw hb⟩,hf.2⟩
  ·rw [hv] at h1 h2;exact h.apart i j b hi hj (fun L e=>by cases e) (fun L e=>by cases e) h1 h2
  ·cases e;rw [Nm];refine ⟨.inr ⟨q,Bs,rfl,r2,r3,by unfold LB;unfold As at hb;simp only [yc];omega,⟨.inr rfl,XI⟩,r6⟩,fun j b hj hb Cd=>?_⟩;cases hb;rw [hv] at Cd;rcases r5 with r5 | r5
   ·exact h.apart j r q.blk hj hr (fun L e=>by cases e) (fun L e=>by cases e) Cd (by rw [hU];exact r5)
   ·exact absurd ((h.has j hj fun L e=>by cases e).blk Cd).2 (Nat.not_lt.2 r5)
theorem lU (h:I3 w p ls Bo vs) {r:Nat} {L:List Int} (Ir:Bo=some (r,L)) (hr:r<ls.length) {t:TypeId} {ti:TypeInfo} (Jn:P.info? t=some ti) (A9:ti.size=1):
 ∃ w',(Instr.storeAt t (.pointer (some ⟨p.blk,p.off+r,none⟩)) (vs.getD 0 undef)).run P w= .ok () w'/\ AP (fun b=>b=p.blk) w w'/\ I3 w' { p with val:=.tuple (vs.setIfInBounds (r+1) (vs.getD 0 undef)) } (ls.set r L) none (vs.setIfInBounds (r+1) (vs.getD 0 undef))/\ C7 w' p.blk:=by
 obtain ⟨hs,hd⟩:=h.inHand r L Ir;obtain ⟨cs,tt,k1,k2,k3,k4⟩:=h.row
 generalize hU:vs.getD 0 undef=u at*
 have hc:u.cells= #[u]:=by rcases hs with ⟨_,rfl⟩ | ⟨q,cap,rfl,_⟩ <;> rfl
 have Kt:r+1<vs.size:=by rw [h.size];omega
 have Bj:w.cell? ⟨p.blk,p.off+r,none⟩=some vs[r+1]:=by
  have:=k4 r hr;rw [yh Kt] at this;unfold World.cell?;simp [k1,this]
 have GP: ∀ jj,w.frozen? ⟨p.blk,jj,none⟩=false:=fun jj=>by unfold World.frozen?;simp [k1]
 have hv: ∀ j,j≠r -> (vs.setIfInBounds (r+1) u).getD (j+1) undef=vs.getD (j+1) undef:=fun j hj=>by
  rw [yV,yV,zAB (by omega)]
 have Gq:(vs.setIfInBounds (r+1) u).getD (r+1) undef=u:=by
  simp [yV,yq,Kt]
 obtain ⟨Ds,e1,e2,e3⟩:=Ny p.blk tt (0,0) [u] (p.off+r) w cs k1 (by simp;omega);have Xz:AP (fun b=>b=p.blk) w (w.setCells p.blk (p.off+r) [u]):=M8 _ _ _ _
 generalize hW:w.setCells p.blk (p.off+r) [u]=W at Xz e1
 have stay: ∀ b,b≠p.blk -> b<w.heap.size -> W.heap[b]? =w.heap[b]? :=fun b hb hl=>Xz.block b hl hb
 refine ⟨W,?_,Xz,?_,.cells e1⟩
 ·rw [←hW]
  have:=Vh (w:=w) (b:=p.blk) (o:=p.off+r) (v:=u) Jn (by rw [hc,A9];rfl) (fun jj Kx=>by
   have:jj=0:=by rw [hc] at Kx;simpa using Kx
   subst this;rw [zAJ,Bj];rfl) GP (fun x hx=>by
   have:x=u:=by rw [hc] at hx;simpa using hx
   subst this;rcases hs with ⟨_,rfl⟩ | ⟨q,cap,rfl,_⟩ <;> rfl)
  rw [hc] at this;exact this
 ·have lg: ∀ j,j≠r -> (ls.set r L).getD j default=ls.getD j default:=fun j hj=>by
   rw [u8,u8,zG (by omega)]
  refine ⟨rfl,by simpa using h.size,⟨Ds,tt,e1,by simpa [e2] using k2,by rw [e2];exact k3,fun j hj=>?_⟩,h.blk,fun j hj _=>?_,fun i j b hi hj _ _ h1 h2=>?_,fun k L e=>by cases e⟩
  ·rw [yW] at hj
   show Ds[p.off+j]? =_
   rw [e3]
   by_cases e:j=r
   ·subst e;rw [xw (by simp),Array.getElem?_setIfInBounds_self_of_lt Kt];simp
   ·rw [yK (by simp;omega),zAB (by omega)];exact k4 j hj
  ·rw [yW] at hj
   by_cases e:j=r
   ·subst e;rw [Gq,show (ls.set j L).getD j default=L by simp [u8,hj]];exact hs.out (fun b hf _ hl=>stay b hf.2 hl) fun _ h _=>h
   ·rw [hv j e,lg j e];exact (h.has j hj fun L' e'=>by rw [Ir] at e';cases e';exact e rfl).out (fun b hf _ hl=>stay b hf.2 hl) fun _ h _=>h
  ·rw [yW] at hi hj
   by_cases ei:i=r
   ·subst ei;rw [Gq] at h1
    by_cases ej:j=i
    ·exact ej.symm
    ·rw [hv j ej] at h2;exact (hd j b hj h1 h2).symm
   ·rw [hv i ei] at h1
    by_cases ej:j=r
    ·subst ej;rw [Gq] at h2;exact hd i b hi h2 h1
    ·rw [hv j ej] at h2;exact h.apart i j b hi hj (fun L' e'=>by rw [Ir] at e';cases e';exact ei rfl) (fun L' e'=>by rw [Ir] at e';cases e';exact ej rfl) h1 h2
theorem ac (R:Ad P Γ N S ρ a w) {o:Oper} {S':St} {fz Iz:List (Nat×Fz)} {vc:List Prop} (h:Vd P S fz o=some (S',vc,Iz)) (hv:Be vc):
 BS P (execOp a.eval o) w (fun v w'=>(∃ ρ',Ad P Γ N S' ρ' (a.put o.dst v) w'/\ Cn S.h ρ w S'.h ρ' w')/\ ((∀ t x y,o.op≠.store t x y)∨∃ k i p t x y,o.op= .store t x y/\ Ac S.fr x= .mp k 1 i 0/\ ρ[k]? =some p/\ AP p.foot w w')):=by
 unfold Vd at h;split at h
 ·rename_i t x y ho;split at h
  case h_2=>cases h
  rename_i d rest;split at h
  case isFalse=>cases h
  split at h
  case h_2=>cases h
  rename_i r hT;obtain ⟨e,i⟩:=r;split at h
  case h_2=>cases h
  rename_i k1 m k2 m' hx hy;cases h;obtain ⟨⟨rfl,F4,H2⟩,_⟩:=hv;obtain ⟨hu,hi,hz,hs,DD⟩:=lW hT;have rx:=Bh R x;have ry:=Bh R y;rw [hx] at rx;rw [hy] at ry;have C6:(madeCells (Value.slice none 0 0).cells (m'.toNat*i.size)).size=m'.toNat:=by rw [size_madeCells,hs,yz]
  have Cm: ∀ j,j<m'.toNat -> (madeCells (Value.slice none 0 0).cells (m'.toNat*i.size))[j]? =some (Value.slice none 0 0):=fun j hj=>by
   simp [madeCells,hs,hj,Value.cells,Nat.mod_one]
  refine BS.value (s:=Instr.makeSlice t (a.eval x) (a.eval y)) (by unfold execOp;rw [ho]) (v:=.slice (some ⟨w.heap.size,0,none⟩) m'.toNat m'.toNat) (w':=w.alloc (.cells (madeCells (Value.slice none 0 0).cells (m'.toNat*i.size)) e)) ?_ ?_
  ·rw [show a.eval x=_ from rx,show a.eval y=_ from ry];refine run_make w t e i _ hu hi hz k1 k2 m' m' F4 (zP _) ?_ (by omega);have:(i.bytes:Int)*m'<=128*1000000000000:=Int.mul_le_mul (by omega) H2 F4 (by omega);omega
  ·generalize hC:madeCells (Value.slice none 0 0).cells (m'.toNat*i.size)=cs at C6 Cm ⊢
   have hg: ∀ j,j<m'.toNat -> (#[undef]++Array.replicate m'.toNat (Value.slice none 0 0)).getD (j+1) undef= .slice none 0 0:=fun j hj=>by
    simp [yV,Array.getElem?_append,hj]
   refine ⟨Mg R o.dst (Qj (ob:=.cells cs e) (o:=.mo (.rws (List.replicate m'.toNat []) none)) (d:=.msl S.h.length 1 0 m'.toNat) (pl:=⟨w.heap.size,0,cs.size,.tuple (#[undef]++Array.replicate m'.toNat (Value.slice none 0 0)),fun b=>b=w.heap.size⟩) R.hr rfl rfl (fun M ρ'=>?_) (fun M ρ' hp=>⟨_,m'.toNat,hp,by simp,yS _,by unfold LB;omega,by simp [C6]⟩) true) fun _ _ h=>h,.inl fun t x y e=>by rw [ho] at e;cases e⟩;refine ⟨#[undef]++Array.replicate m'.toNat (Value.slice none 0 0),rfl,by simp;omega,⟨cs,e,zx w _,by simp [C6],yS _,fun j hj=>?_⟩,rfl,fun j hj _=>.inl ⟨?_,?_⟩,fun i j b hi hj _ _ h1 h2=>?_,fun k L e=>by cases e⟩
   ·rw [yQ] at hj
    show cs[0+j]? =_
    rw [yU,Cm j hj];simp [Array.getElem?_append,hj]
   ·rw [yQ] at hj;simp [u8,hj]
   ·rw [yQ] at hj;exact hg j hj
   ·rw [yQ] at hi;rw [hg i hi] at h1;cases h1
 ·rename_i c ho;split at h
  case h_2=>cases h
  rename_i hc;split at h
  case h_2=>cases h
  rename_i x y ha;split at h
  case h_2=>cases h
  rename_i t t' ht;split at h
  case isFalse=>cases h
  rename_i e;subst e;split at h
  case h_2=>cases h
  rename_i e i z hk;obtain ⟨hu,hi,hz,h0,CN,Dq,_⟩:=Qx hk;have CU:i.size=1:=Dq.symm;split at h
  case isTrue=>cases h
  rename_i DD;have rx:=Bh R x;have ry:=Bh R y;split at h
  case h_2=>cases h
  rename_i j r ys vy hX hY;split at h
  case h_2=>cases h
  rename_i ls hO;cases h;obtain ⟨v1,v2,v3,v4,_⟩:=hv;rw [hX] at rx;obtain ⟨p,vs,hp,hA,CZ⟩:=ab R hO rx;have ex:a.eval x=vs.getD (r+1) undef:=by simp [yV,CZ]
  obtain ⟨w',u',p',g1,g2,g3,g4,g5,g6,g7⟩:=lV (ty:=o.type) hA v3 (fun b hb=>(R.hr.cel j _ p b hO hp hb).2.2) hu hi hz CU CN (by omega) (by rw [CU];exact QK R hu ry hY v1) v2 v4;refine BS.value (Qr ho hc ha ht) (by rw [ex];exact g1) ?_
  exact ⟨aa R hO hp g2 g3 g4 g5 g6 g7 o.dst fun M ρ' hq=>⟨p',_,hq,g4.val,by
   have:0<vs.size:=by rw [hA.size];omega
   simp [yq,this]⟩,.inl fun t x y e=>by rw [ho] at e;cases e⟩
 ·rename_i t x y ho;split at h
  case h_2=>cases h
  rename_i Xm;split at h
  case h_2=>cases h
  rename_i j r j' hX hY;split at h
  case h_2=>cases h
  rename_i ls r' L hO;split at h
  case isFalse=>cases h
  rename_i hc;cases h;obtain ⟨rfl,A9⟩:=hc;obtain ⟨rfl,v2,_⟩:=hv;have rx:=Bh R x;have ry:=Bh R y;rw [hX] at rx;rw [hY] at ry;obtain ⟨p,vs,hp,hA,CZ⟩:=ab R hO ry;obtain ⟨p2,ML,ex⟩:=rx;have:p2=p:=yH (ML.symm.trans hp);subst this;cases Jn:P.info? t with
  | none=>rw [Jn] at A9;cases A9
  | some ti=>
  rw [Jn] at A9;have YH:a.eval x= .pointer (some ⟨p2.blk,p2.off+r',none⟩):=by rw [ex];simp
  have ey:a.eval y=vs.getD 0 undef:=by simp [yV,CZ]
  obtain ⟨W,g1,g2,g3,g4⟩:=lU hA rfl v2 Jn (by simpa using A9);refine BS.skip (s:=Instr.storeAt t (a.eval x) (a.eval y)) (by unfold execOp;rw [ho]) (w':=W) (by rw [YH,ey];exact g1) ?_
  have:=aa (a:=a) (p':={ p2 with val:=.tuple (vs.setIfInBounds (r'+1) (vs.getD 0 undef)) }) R hO hp (g2.mono fun b _ hb=>by rw [show b=p2.blk from hb];exact hA.blk) (fun b hb=>⟨.inl hb,by
   by_cases e:b=p2.blk
   ·rw [e];exact g4
   ·obtain ⟨c,t1,t2,hc⟩:=(R.hr.cel _ _ p2 b hO hp hb).2.2;exact ⟨c,t1,t2,(g2.block b (xz.1 hc).1 e).trans hc⟩⟩) g3 rfl rfl rfl none (d:=.any) (v:=undef) fun _ _ _=>trivial
  rw [Xm];exact ⟨this,.inr ⟨j',r',p2,t,x,y,ho,hX,hp,g2.mono fun b _ hb=>by rw [show b=p2.blk from hb];exact hA.blk⟩⟩
 ·cases h
end
end Go.Proofs.YtgkhhfnhacibcaaGreatDoor
namespace Go.Proofs.YtgkhhfnhacibcaaGreatDoor
abbrev zj:=@Bool.false_or
abbrev zo:=@Bool.false_ne_true
end Go.Proofs.YtgkhhfnhacibcaaGreatDoor
namespace Go.Proofs.YtgkhhfnhacibcaaGreatDoor
open Go.RowKit
def ES (P:Program) (Γ:BB) (f:Nat) (ds:List DV) (h:DH) (d:DV) (h':DH) (ext:Bool):Prop:=
 (∃ fn,P.funcs[f]? =some fn/\ fn.name≠ "runtime.NumGoroutine" /\ fn.body.isSome=true)/\
 ∀ (N:Nat -> Prop) (ρ:List AN) (w:World) (args:Array Value),BY P Γ N h ρ w -> B1 (MS N h ρ) w ρ ds args ->
  Calls P f args w fun e w'=>∃ v,e= .returned v/\ C1 P Γ N h ρ w ext d h' v w'
def QH (h h':DH):Bool:=(List.range h.length).all fun k=>!(h.getD k none).isSome||(h'.getD k none).isSome
def M4 (P:Program) (Γ:BB) (f:Nat) (ds:List DV) (h:DH) (d:DV) (h':DH) (k:Nat):Prop:=
 (∃ fn,P.funcs[f]? =some fn/\ fn.name≠ "runtime.NumGoroutine" /\ fn.body.isSome=true)/\
 ∀ (N:Nat -> Prop) (ρ:List AN) (w:World) (args:Array Value),BY P Γ N h ρ w -> B1 (MS N h ρ) w ρ ds args ->
  Calls P f args w fun e w'=>∃ v,e= .returned v/\ C1 P Γ N h ρ w false d h' v w'/\ AP (fun b=>∃ i o p,k<=i/\ h[i]? =some (some o)/\ ρ[i]? =some p/\ p.foot b) w w'
structure Bt where
 calls:List (DV×DH×Bool)
 co:List (Nat×DV)
 fz:List (Nat×Fz):=[]
 tg:List (List (Nat×Nat)×St):=[]
def KD (ops:Array Oper) (S:St) (o:Oper):Option Bool:=match o.guard with
 | none=>some true
 | some (j,JG)=>match (ops[j]?).bind (·.dst) with
  | some t=>match S.fr.getD t .any with
   | .bool b=>some (b==JG)
   | .tup _ _=>some false
   | _=>none
  | none=>none
def RC (co:List (Nat×DV)) (dst:Option Nat) (d:DV):DV×List Prop×List (Nat×DV):=match co with
 | []=>(d,[],[])
 | (t,d')::rest=>match dst with
  | some t'=>if t'=t then (d',[AT d d'],rest) else (d,[],co)
  | none=>(d,[],co)
def KE (S:St):Op -> Bool
 | .move _=>true
 | .assign _=>true
 | .pick .. =>true
 | .binOp .shl .. =>false
 | .binOp .shr .. =>false
 | .binOp .quo .. =>false
 | .binOp .rem .. =>false
 | .binOp _ _ _ y _=>match Ac S.fr y with
  | .nils=>false
  | _=>true
 | .unOp .. =>true
 | .convert .. =>true
 | .nilCheck _=>true
 | .fieldAddr .. =>true
 | .extract .. =>true
 | .makeFunc .. =>true
 | .build .. =>true
 | .field .. =>true
 | .call _=>true
 | .load _ x=>match Ac S.fr x with
  | .mp .. =>false
  | _=>true
 | _=>false
def qU:Op -> Bool
 | .box .. =>true
 | .alloc _=>true
 | .buildSlice .. =>true
 | .makeSlice .. =>true
 | .store .. =>true
 | .makeMap .. =>true
 | .mapUpdate .. =>true
 | .insert .. =>true
 | .lookup .. =>true
 | .range .. =>true
 | .entry _=>true
 | .call c=>match c.callee with
  | .builtin .append=>true
  | .value _=>true
  | _=>false
 | _=>false
def PW (P:Program) (ops:Array Oper) (S:St) (co:List (Nat×DV)) (o:Oper):Option (St×List Prop×List (Nat×DV)):=match KD ops S o with
 | none=>none
 | some false=>some (⟨Dj S.fr o.dst Oh,S.h⟩,[],co)
 | some true=>match Pb P S o.op with
  | none=>none
  | some (d,vc)=>match RC co o.dst d with
   | (d',vs,C0)=>some (⟨Dj S.fr o.dst d',S.h⟩,(if KE S o.op then vs else vc::vs),C0)
def PY (P:Program) (ops:Array Oper):List Oper -> St -> List (Nat×DV) -> Option (St×List Prop×List (Nat×DV))
 | [],S,co=>some (S,[],co)
 | o::rest,S,co=>match PW P ops S co o with
  | none=>none
  | some (S',vs,C0)=>match PY P ops rest S' C0 with
   | none=>none
   | some (CV,BW,fy)=>some (CV,vs++BW,fy)
def OY (P:Program) (Γ:BB) (S:St) (calls:List (DV×DH×Bool)):Op -> Option (DV×DH×List Prop×Bool×List (DV×DH×Bool))
 | .box _ x=>match ID (Ac S.fr x) with
  | some l=>some (.ref S.h.length 0,S.h++[some (.cells l)],[],true,calls)
  | none=>none
 | .alloc t=>match P.info? t with
  | some i=>match i.zero with
   | some z=>if Uy z then some (.mp S.h.length 1 0 0,S.h++[some (.bools (List.replicate z.cells.size false))],[],true,calls)
    else some (.ref S.h.length 0,S.h++[some (.cells (z.cells.toList.map FC))],[],true,calls)
   | none=>none
  | none=>none
 | .buildSlice t len parts=>match Jz P t with
  | some (k,_,_,_)=>if UT parts.toList len&&decide (len<=65536/\ k.cells<=64) then match OR k (parts.toList.map fun x=>Ac S.fr x.2) with
   | some ob=>some (.msl S.h.length k.cells 0 len,S.h++[some ob],[],true,calls)
   | none=>none
   else none
  | none=>none
 | .makeSlice t x y=>match S9 P t with
  | some (n,_,_)=>match Ac S.fr x,Ac S.fr y with
   | .int _ m,.int _ m'=>some (.msl S.h.length 1 0 m.toNat,S.h++[some (.mo (.sets n (List.replicate m.toNat none) none))],[m'=m/\ 0<=m/\ m<=1000000000000],true,calls)
   | _,_=>none
  | none=>match Jz P t with
   | some (k,_,i,z)=>if decide (i.bytes<=128) then match Ac S.fr x,Ac S.fr y with
    | .int _ n,.int _ n'=>some (.msl S.h.length k.cells 0 n.toNat,S.h++[some (cR k n.toNat z)],[n'=n/\ 0<=n/\ n<=1000000000000],true,calls)
    | _,_=>none
    else none
   | none=>none
 | .store t x y=>match LW P S t (Ac S.fr x) (Ac S.fr y) with
  | some (h',vc)=>some (.any,h',[vc],false,calls)
  | none=>none
 | .call c=>match c.callee with
  | .builtin .append=>match c.args.toList with
   | [x,y]=>match c.argTypes.toList with
    | [t,t']=>if t=t' then match Yw P S t (Ac S.fr x) (Ac S.fr y) with
     | some (d,h',vc)=>some (d,h',[vc],false,calls)
     | none=>none
     else none
    | _=>none
   | _=>none
  | .value f=>match Ac S.fr f,calls with
   | .fn g m cap,(d,h',ext)::rest=>some (d,h',[ES P Γ g (c.args.toList.map (Ac S.fr)++(List.range m).map cap) S.h d h' ext],ext,rest)
   | _,_=>none
  | _=>none
 | op=>match WZ P S op with
  | some (d,h',vs,ext)=>some (d,h',vs,ext,calls)
  | none=>none
def Mx (P:Program) (Γ:BB) (ops:Array Oper) (S:St) (Aq:Bt) (o:Oper):Option (St×List Prop×Bool×Bt):=match KD ops S o with
 | none=>none
 | some false=>some (⟨Dj S.fr o.dst Oh,S.h⟩,[],true,Aq)
 | some true=>match Vd P S Aq.fz o with
  | some (S',vs,Iz)=>some (S',vs,false,⟨Aq.calls,Aq.co,Iz,Aq.tg⟩)
  | none=>match VJ P S o with
  | some (S',vs)=>some (S',vs,false,Aq)
  | none=>match OY P Γ S Aq.calls o.op with
   | none=>none
   | some (d,h',vs,ext,calls)=>match RC Aq.co o.dst d with
    | (d',BW,C0)=>match Ql Aq.fz o.dst ⟨Dj S.fr o.dst d',h'⟩ with
     | none=>none
     | some (S',M7,Iz)=>some (S',vs++(BW++M7),ext,⟨calls,C0,Iz,Aq.tg⟩)
def Ec (P:Program) (Γ:BB) (ops:Array Oper):List Oper -> St -> Bt -> Option (St×List Prop×Bt)
 | [],S,Aq=>some (S,[],Aq)
 | o::rest,S,Aq=>match qU o.op with
  | true=>match Mx P Γ ops S Aq o with
   | none=>none
   | some (S',vs,_,CE)=>match Ec P Γ ops rest S' CE with
    | none=>none
    | some (CV,BW,Pj)=>some (CV,vs++BW,Pj)
  | false=>match PW P ops S Aq.co o with
   | none=>none
   | some (S',vs,C0)=>match Ec P Γ ops rest S' ⟨Aq.calls,C0,Aq.fz,Aq.tg⟩ with
    | none=>none
    | some (CV,BW,Pj)=>some (CV,vs++BW,Pj)
def Yc (P:Program) (Γ:BB) (hb:DH) (ops:Array Oper) (S:St) (Aq:Bt) (o:Oper):Option (St×List Prop×Bt):=match o.op with
 | .call c=>match c.callee with
  | .value f=>match Ac S.fr f,Aq.calls with
   | .fn g m cap,(d,h',false)::rest=>match KD ops S o,QH hb S.h with
    | some true,true=>match RC Aq.co o.dst d with
     | (d',BW,C0)=>match Ql Aq.fz o.dst ⟨Dj S.fr o.dst d',h'⟩ with
      | some (S',M7,Iz)=>some (S',M4 P Γ g (c.args.toList.map (Ac S.fr)++(List.range m).map cap) S.h d h' hb.length::(BW++M7),⟨rest,C0,Iz,Aq.tg⟩)
      | none=>none
    | _,_=>none
   | _,_=>none
  | _=>none
 | _=>none
def bh (CY:List Nat) (hb h:DH):DH:=match CY with
 | []=>hb
 | _=>h
def hseq (P:Program) (Γ:BB) (ops:Array Oper):DH -> List (List Nat×Nat) -> List Nat -> List Nat -> St -> Bt -> Option (St×List Prop×Bt)
 | _,[],BZ,tail,S,Aq=>match PY P ops (FB ops BZ) S Aq.co with
  | none=>none
  | some (S',vs,C0)=>match Ec P Γ ops (FB ops tail) S' ⟨Aq.calls,C0,Aq.fz,Aq.tg⟩ with
   | none=>none
   | some (CV,BW,Pj)=>some (CV,vs++BW,Pj)
 | hb,(CY,i)::EW,BZ,tail,S,Aq=>match PY P ops (FB ops CY) S Aq.co with
  | none=>none
  | some (S',vs,C0)=>match ops[i]? with
   | none=>none
   | some o=>match Yc P Γ (bh CY hb S.h) ops S' ⟨Aq.calls,C0,Aq.fz,Aq.tg⟩ o with
    | some (CV,BW,CE)=>match hseq P Γ ops (bh CY hb S.h) EW BZ tail CV CE with
     | none=>none
     | some (S3,M5,Ja)=>some (S3,vs++(BW++M5),Ja)
    | none=>match Mx P Γ ops S' ⟨Aq.calls,C0,Aq.fz,Aq.tg⟩ o with
     | none=>none
     | some (CV,BW,ext,CE)=>match ext with
      | false=>none
      | true=>match hseq P Γ ops (bh CY hb S.h) EW BZ tail CV CE with
       | none=>none
       | some (S3,M5,Ja)=>some (S3,vs++(BW++M5),Ja)
section
variable {P:Program} {Γ:BB} {N:Nat -> Prop} {S:St} {ρ:List AN} {a:Act} {w:World} {F:Fence}
structure Dg (F:Fence) (P:Program):Prop where
 fn: ∀ f,F.fn f
 dep:F.depth=none
 calls: ∀ {f:FuncId} {args:Array Value} {w:World} {R:Ending -> World -> Prop},Calls P f args w R -> CallsIn F 0 P f args w R
theorem Dg.wide:Dg Fence.wide P:=⟨fun _=>trivial,rfl,fun h=>callsIn_wide.2 h⟩
theorem Dg.round (l:Nat):Dg (Fence.wide.inRound l) P:=⟨fun _=>trivial,rfl,fun h=>CallsIn.inRound _ (callsIn_wide.2 h)⟩
theorem JF (R:Ad P Γ N S ρ a w) {ops:Array Oper} {o:Oper} {r:Bool} (h:KD ops S o=some r):Region.wanted o (yielded ops a.tmps)=r:=by
 unfold KD at h;unfold Region.wanted;split at h
 ·rename_i hg;rw [hg];cases h;rfl
 ·rename_i j JG hg;rw [hg];split at h
  ·rename_i t ht;split at h
   ·rename_i b hb;cases h;have hr:=R.fr.at t;rw [hb] at hr;have hv:a.tmps.getD t undef= .bool b:=hr
    have:a.tmps[t]? =some (.bool b):=by
     rw [yV] at hv;cases hx:a.tmps[t]? with
     | none=>rw [hx] at hv;cases hv
     | some u=>rw [hx] at hv;exact congrArg some hv
    simp [yielded,ht,this]
   ·rename_i m f hb;cases h;have hr:=R.fr.at t;rw [hb] at hr;obtain ⟨cs,hv,_⟩:=hr
    have:yielded ops a.tmps j=none:=by
     unfold yielded;rw [ht]
     show (match a.tmps[t]? with | some (.bool b)=>some b | _=>none)=none
     rw [yV] at hv;cases hx:a.tmps[t]? with
     | none=>rfl
     | some u=>rw [hx] at hv;have hv:u= .tuple cs:=hv;rw [hv]
    simp [this]
   ·cases h
  ·cases h
theorem Ug {co:List (Nat×DV)} {dst:Option Nat} {d d':DV} {vs:List Prop} {C0:List (Nat×DV)} (h:RC co dst d=(d',vs,C0)) (hv:Be vs) {M:Nat -> Prop} {v:Value} (hr:AO M w d ρ v):AO M w d' ρ v:=by
 unfold RC at h;split at h
 ·cases h;exact hr
 ·split at h
  ·split at h
   ·cases h;exact hv.1 M w ρ v hr
   ·cases h;exact hr
  ·cases h;exact hr
theorem bS {op:Op} {d:DV} {vc:Prop} (h:NS P S op=some (d,vc)) (ht:KE S op=true):vc:=by
 unfold NS at h;split at h
 ·cases h;trivial
 ·cases h;trivial
 ·repeat' (split at h)
  all_goals first | (cases h;trivial) | (cases h;done)
 ·rename_i t x;simp only [KE] at ht;unfold L6 at h
  repeat' (split at h)
  all_goals first | (cases h;trivial) | (cases h;done) | (simp_all;done)
 ·rename_i op t x y t';unfold Uo at h;split at h
  ·split at h
   all_goals first | (cases h;trivial) | (cases h;done)
  ·split at h
   all_goals first | (cases h;trivial) | (cases h;done)
  ·rename_i e;simp [KE,e] at ht
  ·rename_i e;simp [KE,e] at ht
  ·rename_i e;simp [KE,e] at ht
  ·cases ht
  ·cases ht
  ·cases ht
  ·cases ht
  ·split at h
   ·unfold Un at h;split at h
    all_goals first | (cases h;trivial) | (cases h;done)
   ·cases h
  ·cases h
 ·repeat' (split at h)
  all_goals first | (cases h;trivial) | (cases h;done)
 ·repeat' (split at h)
  all_goals first | (cases h;trivial) | (cases h;done)
 ·repeat' (split at h)
  all_goals first | (cases h;trivial) | (cases h;done)
 ·repeat' (split at h)
  all_goals first | (cases h;trivial) | (cases h;done)
 ·cases ht
 ·repeat' (split at h)
  all_goals first | (cases h;trivial) | (cases h;done)
 ·split at h
  ·cases h;trivial
  ·cases h
 ·split at h
  ·unfold Ul at h;split at h
   ·split at h
    ·split at h
     ·unfold TJ at h;split at h
      all_goals first | (cases h;trivial) | (cases h;done)
     ·cases h
    ·cases h
   ·split at h
    ·unfold WV at h;split at h
     all_goals first | (cases h;trivial) | (cases h;done)
    ·cases h
   ·split at h
    ·unfold WU at h;split at h
     all_goals first | (cases h;trivial) | (cases h;done)
    ·cases h
   ·cases h
  ·cases h
 ·cases h
theorem va {op:BinOp} {t:TypeId} {x y d:DV} {vc:Prop} (h:Qu P op t x y=some (d,vc)):vc:=by
 unfold Qu at h;split at h
 ·split at h
  all_goals first | (cases h;trivial) | (cases h;done)
 ·split at h
  all_goals first | (cases h;trivial) | (cases h;done)
 ·cases h
theorem ir {op:Op} {d:DV} {vc:Prop} (h:Pb P S op=some (d,vc)) (ht:KE S op=true):vc:=by
 unfold Pb at h;split at h
 ·unfold TH at h
  repeat' (split at h)
  all_goals first | (cases h;trivial) | (cases h;done)
 ·cases ht
 ·unfold UF at h
  repeat' (split at h)
  all_goals first | (cases h;trivial) | (cases h;done)
 ·cases ht
 ·split at h
  ·rename_i r hr;cases h;exact va hr
  ·exact bS h ht
 ·exact bS h ht
theorem Sc (R:Ad P Γ N S ρ a w) {ops:Array Oper} {co:List (Nat×DV)} {o:Oper} {S':St} {vs:List Prop} {C0:List (Nat×DV)} (h:PW P ops S co o=some (S',vs,C0)) (hv:Be vs):
 S'.h=S.h/\ ((Region.wanted o (yielded ops a.tmps)=true/\ ∃ v,(∀ W,Keep N w W -> (execOp a.eval o).run P W= .ok (.value v) W)/\ Ad P Γ N S' ρ (a.put o.dst v) w)∨(Region.wanted o (yielded ops a.tmps)=false/\ Ad P Γ N S' ρ (a.put o.dst undef) w)):=by
 unfold PW at h;split at h
 ·cases h
 ·rename_i hw;cases h;exact ⟨rfl,.inr ⟨JF R hw,Hh R _ Rh⟩⟩
 ·rename_i hw;split at h
  ·cases h
  ·rename_i d vc hp;split at h;rename_i d' BW fy MZ;cases h
   have dW:vc/\ Be BW:=by
    by_cases ht:KE S o.op=true
    ·rw [xw ht] at hv;exact ⟨ir hp ht,hv⟩
    ·rw [yK ht] at hv;exact hv
   obtain ⟨v,g1,g2⟩:=nT R o hp dW.1;exact ⟨rfl,.inl ⟨JF R hw,v,g1,Hh R _ (Ug MZ dW.2 g2)⟩⟩
theorem PX {ops:Array Oper} {Q:Act -> Prop}: ∀ (l:List Oper) {S:St} {a:Act} {co:List (Nat×DV)} {S':St} {vs:List Prop} {C0:List (Nat×DV)},Ad P Γ N S ρ a w -> PY P ops l S co=some (S',vs,C0) -> Be vs ->
 (∀ a',S'.h=S.h -> Ad P Γ N S' ρ a' w -> a'.defers=a.defers -> Q a') -> wpQuiet P ops (fun w'=>∃ x:RU w,w'=x.W) Q l a
 | [],S,a,co,S',vs,C0,R,h,_,hQ=>by
  cases h;exact hQ a rfl R rfl
 | o::rest,S,a,co,S',vs,C0,R,h,hv,hQ=>by
  simp only [PY] at h;split at h
  ·cases h
  ·rename_i S1 Cb RD h1;split at h
   ·cases h
   ·rename_i S2 E5 co2 h2;cases h;obtain ⟨B5,B8⟩:=Cf.1 hv;obtain ⟨e1,hs⟩:=Sc R h1 B5;unfold wpQuiet;have Cw: ∀ v,(a.put o.dst v).defers=a.defers:=fun v=>by cases ho:o.dst <;> simp [Act.put]
    rcases hs with ⟨hw,v,g1,g2⟩ | ⟨hw,g2⟩
    ·rw [xw hw];refine ⟨v,?_,PX rest g2 h2 B8 fun a' q1 q2 q3=>hQ a' (q1.trans e1) q2 (q3.trans (Cw v))⟩;rintro W ⟨x,rfl⟩;unfold Oper.quietAt;rw [g1 x.W (Keep.ofExt x.le)];exact ⟨rfl,rfl⟩
    ·rw [yK (by rw [hw];exact zo)];exact PX rest g2 h2 B8 fun a' q1 q2 q3=>hQ a' (q1.trans e1) q2 (q3.trans (Cw undef))
theorem B1.append {M:Nat -> Prop} {l l':List DV} {t t':Array Value} (h:B1 M w ρ l t) (h':B1 M w ρ l' t'):B1 M w ρ (l++l') (t++t'):=by
 refine ⟨by simp [h.1,h'.1],fun i hi=>?_⟩;rcases zb i l.length with hl | hl
 ·have:=h.2 i hl;have ht:i<t.size:=by rw [←h.1];exact hl
  simp only [u8,yV] at this ⊢;rw [yb hl,zk ht];exact this
 ·have BM:i-l.length<l'.length:=by simp at hi;omega
  have:=h'.2 _ BM;have ht:t.size<=i:=by rw [←h.1];exact hl
  simp only [u8,yV] at this ⊢;rw [yi hl,Array.getElem?_append_right ht,←h.1];exact this
theorem mE {g:Nat} {args:Array Value} {fn:Func} (MV:P.funcs[g]? =some fn) (Jq:fn.name≠ "runtime.NumGoroutine") (Xt:fn.body.isSome=true):(callFunc g args).run P w= .ok (.enter g args) w:=by
 have tP:fn.body.isNone=false:=by cases hb:fn.body <;> simp [hb] at Xt ⊢
 have tO:(fn.name== "runtime.NumGoroutine")=false:=by simpa using Jq
 unfold callFunc;rw [yT,show Sem.run P program w= .ok P w from rfl];simp only [Result.andThen,MV,tO,tP,yt,z7];rfl
theorem gB (R:Ad P Γ N S ρ a w) {c:Call} {f:Operand} {g m:Nat} {cap:Nat -> DV} {G:Value -> World -> Prop} (o:Oper) (ho:o.op= .call c) (hc:c.callee= .value f) (hf:Ac S.fr f= .fn g m cap)
 (MV: ∃ fn,P.funcs[g]? =some fn/\ fn.name≠ "runtime.NumGoroutine" /\ fn.body.isSome=true) (hE: ∀ args,B1 (MS N S.h ρ) w ρ (c.args.toList.map (Ac S.fr)++(List.range m).map cap) args -> Calls P g args w fun e w'=>∃ v,e= .returned v/\ G v w'):BS P (execOp a.eval o) w G:=by
 obtain ⟨fn,MV,Jq,Xt⟩:=MV;have hr:=Bh R f;rw [hf] at hr;obtain ⟨lb,hv,hs,Kz⟩:=hr;refine .inr (.inr ⟨g,c.args.map a.eval++lb,w,?_,hE _ (B1.append ⟨by simp,fun i hi=>?_⟩ ⟨by simp [hs],fun i hi=>?_⟩)⟩)
 ·unfold execOp;rw [ho]
  show ((resolve a.eval c o.type)>>=fun d=>invoke d.target d.args).run P w=_
  unfold resolve;rw [hc];simp only [Deferred.ofValue,hv];have he:((pure { target:=.fn (.func g) lb,args:=#[]++Array.map a.eval c.args }:Sem Deferred)>>=fun d=>invoke d.target d.args).run P w=(callFunc g (#[]++Array.map a.eval c.args++lb)).run P w:=rfl;rw [he,mE MV Jq Xt];simp
 ·have BM:i<c.args.size:=by simpa using hi
  have:=Bh R c.args[i];simp [BM,this]
 ·have BM:i<m:=by simpa using hi
  obtain ⟨u,g1,g2⟩:=Kz i BM;simp [BM,g1,g2]
theorem wo (R:Ad P Γ N S ρ a w) {c:Call} {f:Operand} {g m:Nat} {cap:Nat -> DV} {d:DV} {h':DH} {ext:Bool} (o:Oper) (ho:o.op= .call c) (hc:c.callee= .value f) (hf:Ac S.fr f= .fn g m cap)
 (hE:ES P Γ g (c.args.toList.map (Ac S.fr)++(List.range m).map cap) S.h d h' ext):BS P (execOp a.eval o) w (C1 P Γ N S.h ρ w ext d h'):=
 gB R o ho hc hf hE.1 fun args ha=>hE.2 N ρ w args R.hr ha
theorem Y4 (R:Ad P Γ N S ρ a w) {calls:List (DV×DH×Bool)} {o:Oper} {d:DV} {h':DH} {vs:List Prop} {ext:Bool} {RE:List (DV×DH×Bool)} (h:OY P Γ S calls o.op=some (d,h',vs,ext,RE)) (hv:Be vs):
 BS P (execOp a.eval o) w (C1 P Γ N S.h ρ w ext d h'):=by
 unfold OY at h;split at h
 ·rename_i t x ho;split at h
  ·rename_i l hl;cases h;exact ww R hl o ho true
  ·cases h
 ·rename_i t ho;split at h
  ·rename_i i hi;split at h
   ·rename_i z hz;split at h
    ·rename_i W6;cases h;exact xZ R hi hz W6 o ho true
    ·cases h;exact xY R hi hz o ho true
   ·cases h
  ·cases h
 ·rename_i t len parts ho;split at h
  ·rename_i k e i z hk;split at h
   ·rename_i hc;simp only [yD,yd] at hc;split at h
    ·rename_i ob hb;cases h;exact wu R hk hc.1 hc.2 hb o ho true
    ·cases h
   ·cases h
  ·cases h
 ·rename_i t x y ho;split at h
  ·rename_i n e i hT;split at h
   ·rename_i k1 m k2 m' hx hy;cases h;obtain ⟨⟨rfl,v1,v2⟩,_⟩:=hv;exact ou R hT hx hy ⟨v1,v2⟩ o ho true
   ·cases h
  split at h
  ·rename_i k e i z hk;split at h
   ·rename_i DD;split at h
    ·rename_i k1 n k2 n' hx hy;cases h;obtain ⟨⟨rfl,v1,v2⟩,_⟩:=hv;exact oq R hk hx hy ⟨v1,v2⟩ (by simpa using DD) o ho true
    ·cases h
   ·cases h
  ·cases h
 ·rename_i t x y ho;split at h
  ·rename_i h1 vc hs;cases h;exact Z6 R hs hv.1 o ho
  ·cases h
 ·rename_i c ho;split at h
  ·rename_i hc;split at h
   ·rename_i x y ha;split at h
    ·rename_i t t' ht;split at h
     ·rename_i e;subst e;split at h
      ·rename_i d1 h1 vc Xx;cases h;exact xR R Xx hv.1 o ho hc ha ht
      ·cases h
     ·cases h
    ·cases h
   ·cases h
  ·rename_i f hc;split at h
   ·rename_i g m cap d1 h1 ext1 rest hf;cases h;exact wo R o ho hc hf hv.1
   ·cases h
  ·cases h
 ·split at h
  ·rename_i hm;cases h;exact om R o hm hv
  ·cases h
theorem J0 (hF:Dg F P) {o:Oper} (hd: ∀ c,o.op≠.defer c) {G:Value -> World -> Prop} (h:BS P (execOp a.eval o) w G) {K:Act -> World -> Prop} {Q:Exit -> Act -> World -> Prop} (hK: ∀ v w',G v w' -> K (a.put o.dst v) w'):o.wpIn F 0 P a w K Q:=by
 refine ⟨fun f _=>hF.fn f,?_⟩;rw [zAP _ _ _ hd];rcases h with ⟨v,w',h1,h2⟩ | ⟨w',h1,h2⟩ | ⟨f,args,w',h1,h2⟩
 ·rw [h1];exact hK v w' h2
 ·rw [h1];exact hK undef w' h2
 ·rw [h1];refine ⟨fun hx=>(by rw [hF.dep] at hx;cases hx),(hF.calls h2).mono ?_⟩;rintro e B7 ⟨v,rfl,hG⟩;exact hK v B7 hG
theorem Yn (hF:Dg F P) (R:Ad P Γ N S ρ a w) {ops:Array Oper} {Aq:Bt} {o:Oper} (hd: ∀ c,o.op≠.defer c) {S':St} {vs:List Prop} {ext:Bool} {CE:Bt} (h:Mx P Γ ops S Aq o=some (S',vs,ext,CE)) (hv:Be vs)
 {K:Act -> World -> Prop} {Q:Exit -> Act -> World -> Prop} (hK: ∀ ρ' a' w',Ad P Γ N S' ρ' a' w' -> Cn S.h ρ w S'.h ρ' w' -> a'.defers=a.defers -> (ext=true -> At w w') -> K a' w'):
 if Region.wanted o (yielded ops a.tmps) then o.wpIn F 0 P a w K Q else (∀ f,o.about P w a.eval=some f -> F.fn f)/\ K (a.put o.dst undef) w:=by
 have Cw: ∀ v,(a.put o.dst v).defers=a.defers:=fun v=>by cases ho:o.dst <;> simp [Act.put]
 unfold Mx at h;split at h
 ·cases h
 ·rename_i hw;cases h;rw [yK (by rw [JF R hw];exact zo)];exact ⟨fun f _=>hF.fn f,hK ρ _ _ (Hh R _ Rh) (Cn.refl _ _ _) (Cw _) fun _=>At.refl w⟩
 ·rename_i hw;rw [xw (JF R hw)];split at h
  ·rename_i S1 Cb ux hM;cases h;exact J0 hF hd (ac R hM hv) fun v w' ⟨⟨ρ',g1,g2⟩,_⟩=>hK ρ' _ _ g1 g2 (Cw v) fun e=>by cases e
  split at h
  ·rename_i S1 Cb hM;cases h;exact J0 hF hd (Z5 R hM hv) fun v w' ⟨⟨ρ',g1,g2⟩,_⟩=>hK ρ' _ _ g1 g2 (Cw v) fun e=>by cases e
  split at h
  ·cases h
  ·rename_i d h1 Cb ext1 calls Xy;split at h;rename_i d' BW C0 MZ;split at h
   ·cases h
   ·rename_i S2 M7 Iz GP;cases h;obtain ⟨B5,QS⟩:=Cf.1 hv;obtain ⟨B8,Hw⟩:=Cf.1 QS;refine J0 hF hd (Y4 R Xy B5) fun v w' G=>?_
    obtain ⟨ρ',g1,g2⟩:=Mg R o.dst G (d':=d') fun M ρ' hr=>Ug MZ B8 hr
    obtain ⟨g3,g4⟩:=UA _ GP Hw P Γ N ρ' _ _ g1;exact hK ρ' _ _ g3 (g2.trans ⟨g4,fun _ _ h=>h⟩) (Cw v) G.ext
theorem K4 (hF:Dg F P) {ops:Array Oper} (BD:Dl ops=true) {Q:Exit -> Act -> World -> Prop}: ∀ (l:List Oper) (_: ∀ o∈l,o∈ops) {S:St} {ρ:List AN} {a:Act} {w:World} {Aq:Bt} {S':St} {vs:List Prop} {CE:Bt},
 Ad P Γ N S ρ a w -> Ec P Γ ops l S Aq=some (S',vs,CE) -> Be vs ->
 (∀ ρ' a' w',Ad P Γ N S' ρ' a' w' -> Cn S.h ρ w S'.h ρ' w' -> a'.defers=a.defers -> Q .normal a' w') -> wpListIn F 0 P ops Q l a w
 | [],_,S,ρ,a,w,Aq,S',vs,CE,R,h,_,hQ=>by
  cases h;exact hQ ρ a w R (Cn.refl _ _ _) rfl
 | o::rest,hl,S,ρ,a,w,Aq,S',vs,CE,R,h,hv,hQ=>by
  have hd: ∀ c,o.op≠.defer c:=by
   obtain ⟨j,hj,e⟩:=Array.getElem_of_mem (hl o (by simp));exact Hr BD (j:=j) (by rw [yh hj,e])
  have EY: ∀ o∈rest,o∈ops:=fun o ho=>hl o (by simp [ho])
  have Cw: ∀ v,(a.put o.dst v).defers=a.defers:=fun v=>by cases ho:o.dst <;> simp [Act.put]
  simp only [Ec] at h;unfold wpListIn;split at h
  ·split at h
   ·cases h
   ·rename_i S1 Cb ext1 Lu h1;split at h
    ·cases h
    ·rename_i S2 E5 Gh h2;cases h;obtain ⟨B5,B8⟩:=Cf.1 hv;exact Yn hF R hd h1 B5 fun ρ' a' w' R' st Dd _=>K4 hF BD rest EY R' h2 B8 fun ρ'' FL B7 FM DL Gs=>hQ ρ'' FL B7 FM (st.trans DL) (Gs.trans Dd)
  ·split at h
   ·cases h
   ·rename_i S1 Cb RD h1;split at h
    ·cases h
    ·rename_i S2 E5 Gh h2;cases h;obtain ⟨B5,B8⟩:=Cf.1 hv;obtain ⟨e1,hs⟩:=Sc R h1 B5
     have go: ∀ v,Ad P Γ N S1 ρ (a.put o.dst v) w -> wpListIn F 0 P ops Q rest (a.put o.dst v) w:=fun v R'=>
      K4 hF BD rest EY R' h2 B8 fun ρ'' FL B7 FM DL Gs=>hQ ρ'' FL B7 FM (by rw [←e1];exact DL) (Gs.trans (Cw v))
     rcases hs with ⟨hw,v,g1,g2⟩ | ⟨hw,g2⟩
     ·rw [xw hw];refine ⟨fun f _=>hF.fn f,?_⟩;rw [zAP _ _ _ hd,g1 w (Keep.ofExt (At.refl w))];exact go v g2
     ·rw [yK (by rw [hw];exact zo)];exact ⟨fun f _=>hF.fn f,go undef g2⟩
theorem V8 {ops:Array Oper}: ∀ (l:List Nat),∀ o∈FB ops l,o∈ops
 | [],o,h=>by simp [FB] at h
 | i::l,o,h=>by
  simp only [FB] at h;split at h
  ·rename_i o' ho;rcases yf.1 h with rfl | h
   ·exact zy ho
   ·exact V8 l o h
  ·exact V8 l o h
theorem gC (hF:Dg F P) (R:Ad P Γ N S ρ a w) {hb:DH} {ops:Array Oper} {Aq:Bt} {o:Oper} {S':St} {vs:List Prop} {CE:Bt} (h:Yc P Γ hb ops S Aq o=some (S',vs,CE)) (hv:Be vs)
 {K:Act -> World -> Prop} {Q:Exit -> Act -> World -> Prop} (hK: ∀ ρ' a' w',Ad P Γ N S' ρ' a' w' -> Cn S.h ρ w S'.h ρ' w' -> a'.defers=a.defers -> AP (fun b=>∃ i o p,hb.length<=i/\ S.h[i]? =some (some o)/\ ρ[i]? =some p/\ p.foot b) w w' -> K a' w'):
 QH hb S.h=true/\ if Region.wanted o (yielded ops a.tmps) then o.wpIn F 0 P a w K Q else (∀ f,o.about P w a.eval=some f -> F.fn f)/\ K (a.put o.dst undef) w:=by
 have Cw: ∀ v,(a.put o.dst v).defers=a.defers:=fun v=>by cases ho:o.dst <;> simp [Act.put]
 unfold Yc at h;split at h
 case h_2=>cases h
 rename_i c ho;split at h
 case h_2=>cases h
 rename_i f hc;split at h
 case h_2=>cases h
 rename_i g m cap d h' rest hf hcalls;split at h
 case h_2=>cases h
 rename_i hw hk;split at h;rename_i d' BW C0 MZ;split at h
 case h_2=>cases h
 rename_i S1 M7 Iz GP;cases h;obtain ⟨B5,QS⟩:=hv;obtain ⟨B8,Hw⟩:=Cf.1 QS;refine ⟨hk,?_⟩;rw [xw (JF R hw)];refine J0 hF (fun c e=>by rw [ho] at e;cases e) (gB R o ho hc hf B5.1 fun args ha=>B5.2 N ρ w args R.hr ha) fun v w' G=>?_
 obtain ⟨ρ',g1,g2⟩:=Mg R o.dst G.1 (d':=d') fun M ρ' hr=>Ug MZ B8 hr
 obtain ⟨g3,g4⟩:=UA _ GP Hw P Γ N ρ' _ _ g1;exact hK ρ' _ _ g3 (g2.trans ⟨g4,fun _ _ h=>h⟩) (Cw v) G.2
theorem oT {hb h:DH} {ρb ρ:List AN} {b w w':World} (HR:BY P Γ N h ρ w) (hS:Cn hb ρb b h ρ w) (hE:At b w) (hk:QH hb h=true) (hu:AP (fun x=>∃ i o p,hb.length<=i/\ h[i]? =some (some o)/\ ρ[i]? =some p/\ p.foot x) w w'):At b w':=by
 refine ((AP.ofExt (S:=fun x=>∃ i o p,hb.length<=i/\ h[i]? =some (some o)/\ ρ[i]? =some p/\ p.foot x) hE).comp hu fun _ _ h=>h).toExt ?_;rintro x hx ⟨i,o,p,h1,h2,h3,h4⟩;rcases hS.st.grow x ⟨i,o,p,h2,h3,h4⟩ with ⟨k,o',q,g1,g2,g3⟩ | dV
 ·have EZ:=(yI.1 g1).1;have:=yJ.1 hk k (yR.2 EZ);rw [show (hb.getD k none).isSome=true by rw [u8,g1];rfl,yw,zj] at this;obtain ⟨o2,XW⟩:=zAl.1 this;have XW:h[k]? =some (some o2):=getD_some XW;exact HR.dis i k o o2 p q x (by omega) h2 XW h3 (hS.pl k q g2) h4 g3
 ·omega
theorem XE (hF:Dg F P) {ops:Array Oper} (BD:Dl ops=true) {Q:Exit -> Act -> World -> Prop}: ∀ (EB:List (List Nat×Nat)) (BZ tail:List Nat) {S:St} {ρ:List AN} {a:Act} {w:World} {Aq:Bt} {S':St} {vs:List Prop} {CE:Bt} {hb:DH} {ρb:List AN} {b:World},
 (tail.all fun t=>decide (t<ops.size))=true -> Ad P Γ N S ρ a w -> Cn hb ρb b S.h ρ w -> At b w -> hseq P Γ ops hb EB BZ tail S Aq=some (S',vs,CE) -> Be vs ->
 (∀ ρ' a' w',Ad P Γ N S' ρ' a' w' -> Cn S.h ρ w S'.h ρ' w' -> a'.defers=a.defers -> Q .normal a' w') -> Nx F 0 P ops Q b EB BZ tail a w
 | [],BZ,tail,S,ρ,a,w,Aq,S',vs,CE,hb,ρb,b,ht,R,_,_,h,hv,hQ=>by
  simp only [hseq] at h;split at h
  ·cases h
  ·rename_i S1 Cb RD h1;split at h
   ·cases h
   ·rename_i S2 E5 Gh h2;cases h;obtain ⟨B5,B8⟩:=Cf.1 hv;refine uB ht (PX _ R h1 B5 fun a' e1 R' Dd=>?_);exact K4 hF BD _ (V8 tail) R' h2 B8 fun ρ'' FL B7 FM DL Gs=>hQ ρ'' FL B7 FM (by rw [←e1];exact DL) (Gs.trans Dd)
 | (CY,i)::EW,BZ,tail,S,ρ,a,w,Aq,S',vs,CE,hb,ρb,b,ht,R,hS,hE,h,hv,hQ=>by
  have DG: ∃ ρb',Cn (bh CY hb S.h) ρb' (bw CY b w) S.h ρ w/\ At (bw CY b w) w:=by
   cases CY with
   | nil=>exact ⟨ρb,hS,hE⟩
   | cons s0 ss=>exact ⟨ρ,Cn.refl _ _ _,At.refl w⟩
  obtain ⟨ρb',K2,eo⟩:=DG;simp only [hseq] at h;split at h
  ·cases h
  ·rename_i S1 Cb RD h1;split at h
   ·cases h
   ·rename_i o ho;split at h
    ·rename_i S2 E5 Gh h2;split at h
     ·cases h
     ·rename_i S3 M5 Ja h3;cases h;obtain ⟨B5,Do⟩:=Cf.1 hv;obtain ⟨B8,Hw⟩:=Cf.1 Do
      show wpQuiet _ _ _ _ _ _
      refine PX _ R h1 B5 fun a' e1 R' Dd=>?_
      unfold wpOpIn;simp only [ho];have hk:QH (bh CY hb S.h) S1.h=true:=(gC (K:=fun _ _=>True) (Q:=fun _ _ _=>True) hF R' h2 B8 fun _ _ _ _ _ _ _=>trivial).1;refine (gC hF R' h2 B8 fun ρ'' FL B7 FM DL Gs hu=>?_).2;rw [e1] at DL hk;have hx:At (bw CY b w) B7:=oT R.hr K2 eo hk (by rw [e1] at hu;exact hu);exact ⟨hx,XE hF BD EW BZ tail ht FM (K2.trans DL) hx h3 Hw fun ρ3 a3 w3 R3 KQ Xn=>hQ ρ3 a3 w3 R3 (DL.trans KQ) (Xn.trans (Gs.trans Dd))⟩
    ·split at h
     ·cases h
     ·rename_i S2 E5 ext Gh h2;split at h
      ·cases h
      ·split at h
       ·cases h
       ·rename_i S3 M5 Ja h3;cases h;obtain ⟨B5,Do⟩:=Cf.1 hv;obtain ⟨B8,Hw⟩:=Cf.1 Do
        show wpQuiet _ _ _ _ _ _
        refine PX _ R h1 B5 fun a' e1 R' Dd=>?_
        unfold wpOpIn;simp only [ho];refine Yn hF R' (Hr BD ho) h2 B8 fun ρ'' FL B7 FM DL Gs Is=>?_
        rw [e1] at DL;have hx:At (bw CY b w) B7:=eo.trans (Is rfl);exact ⟨hx,XE hF BD EW BZ tail ht FM (K2.trans DL) hx h3 Hw fun ρ3 a3 w3 R3 KQ Xn=>hQ ρ3 a3 w3 R3 (DL.trans KQ) (Xn.trans (Gs.trans Dd))⟩
end
end Go.Proofs.YtgkhhfnhacibcaaGreatDoor
namespace Go.Proofs.YtgkhhfnhacibcaaGreatDoor
abbrev zU:=@Nat.zero_le
end Go.Proofs.YtgkhhfnhacibcaaGreatDoor
namespace Go.Proofs.YtgkhhfnhacibcaaGreatDoor
open Go.RowKit
def D9 (L:Nat) (ρ ρ':List AN):Prop:=∀ (k:Nat) (p:AN),k<L -> ρ[k]? =some p -> ρ'[k]? =some p
theorem D9.refl (L:Nat) (ρ:List AN):D9 L ρ ρ:=fun _ _ _ h=>h
theorem D9.trans {L:Nat} {a b c:List AN} (h:D9 L a b) (k:D9 L b c):D9 L a c:=fun i p hi hp=>k i p hi (h i p hi hp)
structure Bd (F:Fence) (B:Option Nat) (w:World):Prop where
 le: ∀ b,B=some b -> b<=w.heap.size
 rd: ∀ l,F.round=some l -> ∃ r,w.heap[l]? =some (.loop r)
theorem Bd.step {P:Program} {Γ:BB} {N:Nat -> Prop} {h h':DH} {ρ ρ':List AN} {F:Fence} {B:Option Nat} {w w':World} (b:Bd F B w) (H:BY P Γ N h ρ w) (st:BN h ρ w h' ρ' w'):Bd F B w':=
 ⟨fun x e=>yO (b.le x e) st.upd.size,fun l hl=>by
  obtain ⟨r,hr⟩:=b.rd l hl;refine ⟨r,(st.upd.block l (xz.1 hr).1 ?_).trans hr⟩;rintro ⟨k,o,p,h1,h2,h3⟩;obtain ⟨_,_,c,t,z,h4⟩:=H.cel k o p l h1 h2 h3;rw [hr] at h4;cases h4;cases t⟩
theorem Bd.wide {B:Nat} {w:World} (h:B<=w.heap.size):Bd Fence.wide (some B) w:=⟨fun b e=>by cases e;exact h,fun l hl=>by cases hl⟩
theorem Bd.none {w:World}:Bd Fence.wide none w:=⟨fun b e=>(by cases e),fun l hl=>by cases hl⟩
def M0:Option Nat -> List Deferred -> World -> Prop
 | none,ds,_=>ds= []
 | some B,ds,w=>D8 B ds w
structure Ba (P:Program) (Γ:BB) (L:Nat) where
 I:(Nat -> Prop) -> DH -> List AN -> World -> Prop
 st: ∀ {N:Nat -> Prop} {h:DH} {ρ:List AN} {w:World} {h':DH} {ρ':List AN} {w':World},I N h ρ w -> BY P Γ N h ρ w -> BY P Γ N h' ρ' w' -> BN h ρ w h' ρ' w' -> D9 L ρ ρ' -> I N h' ρ' w'
def Ow (P:Program) (Γ:BB) (L:Nat) (N0:Nat -> Prop) (h0:DH) (ρ0:List AN) (w0:World):Ba P Γ L where
 I:=fun N h ρ w=>N=N0/\ BN h0 ρ0 w0 h ρ w/\ D9 L ρ0 ρ
 st:=fun ⟨e,s,k⟩ _ _ st k'=>⟨e,s.trans st,k.trans k'⟩
abbrev QY (P:Program) (Γ:BB) (L:Nat):=Exit -> St -> Ba P Γ L -> Prop
def QE {P:Program} {Γ:BB} {L:Nat} (Q:QY P Γ L):Exit -> St -> Ba P Γ L -> Prop
 | .panic _,_,_=>False
 | .outgrown,_,_=>False
 | e,S,Y=>Q e S Y
def Tr (P:Program) (Γ:BB) (F:Fence) (B:Option Nat) (L:Nat) (Y:Ba P Γ L) (c:Code) (S:St) (Q:QY P Γ L):Prop:=
 ∀ N ρ a w,Ad P Γ N S ρ a w -> Y.I N S.h ρ w -> M0 B a.defers w -> Bd F B w ->
  c.wpIn F 0 P (fun e a' w'=>∃ S' ρ' N' Y',QE Q e S' Y'/\ Ad P Γ N' S' ρ' a' w'/\ Y'.I N' S'.h ρ' w'/\ M0 B a'.defers w'/\ Bd F B w') a w
def BT (L:Nat) (S S':St):Prop:=∀ P Γ N ρ a w,Ad P Γ N S ρ a w -> ∃ ρ',Ad P Γ N S' ρ' a w/\ BN S.h ρ w S'.h ρ' w/\ D9 L ρ ρ'
theorem BT.refl (L:Nat) (S:St):BT L S S:=fun _ _ _ ρ _ _ R=>⟨ρ,R,BN.refl _ _ _,D9.refl _ _⟩
theorem BT.trans {L:Nat} {A B C:St} (h:BT L A B) (k:BT L B C):BT L A C:=fun P Γ N ρ a w R=>by
 obtain ⟨ρ1,R1,s1,k1⟩:=h P Γ N ρ a w R;obtain ⟨ρ2,R2,s2,k2⟩:=k P Γ N ρ1 a w R1;exact ⟨ρ2,R2,s1.trans s2,k1.trans k2⟩
section
variable {P:Program} {Γ:BB} {N:Nat -> Prop} {S:St} {F:Fence} {B:Option Nat} {L:Nat} {Y:Ba P Γ L} {Q Q':QY P Γ L}
theorem QE.mono (h: ∀ e S Y,Q e S Y -> Q' e S Y) {e:Exit} {S:St} (hq:QE Q e S Y):QE Q' e S Y:=by
 cases e <;> first | exact hq | exact h _ _ _ hq
theorem Tr.mono {c:Code} (h:Tr P Γ F B L Y c S Q) (hq: ∀ e S Y,Q e S Y -> Q' e S Y):Tr P Γ F B L Y c S Q':=fun N ρ a w R y m b=>
 zAC (h N ρ a w R y m b) fun _ _ _ ⟨S',ρ',N',Y',h1,h2⟩=>⟨S',ρ',N',Y',h1.mono hq,h2⟩
theorem Tr.weaken {c:Code} {S':St} (hS:BT L S S') (h:Tr P Γ F B L Y c S' Q):Tr P Γ F B L Y c S Q:=fun N ρ a w R y m b=>by
 obtain ⟨ρ1,R1,s1,k1⟩:=hS P Γ N ρ a w R;exact h N ρ1 a w R1 (Y.st y R.hr R1.hr s1 k1) m b
theorem Pz {ρ ρ':List AN} {h':DH} {ds:List Deferred} {w w':World} (H:BY P Γ N S.h ρ w) (st:BN S.h ρ w h' ρ' w') (m:M0 B ds w):M0 B ds w':=by
 cases B with
 | none=>exact m
 | some B=>
 refine D8.upd st.upd m fun k _ hk e=>?_
 obtain ⟨i,o,p,h1,h2,h3⟩:=hk;obtain ⟨_,_,c,t,z,h4⟩:=H.cel i o p k h1 h2 h3;rw [h4] at e;cases e;cases t
theorem Tr.skip (h:Q .normal S Y):Tr P Γ F B L Y .skip S Q:=fun N ρ _ _ R y m b=>wpIn_skip ⟨S,ρ,N,Y,h,R,y,m,b⟩
theorem Tr.ret (h:Q .ret S Y):Tr P Γ F B L Y .ret S Q:=fun N ρ _ _ R y m b=>wpIn_ret ⟨S,ρ,N,Y,h,R,y,m,b⟩
theorem Tr.exit {id:Nat} (h:Q (.exit id) S Y):Tr P Γ F B L Y (.exit id) S Q:=fun N ρ _ _ R y m b=>wpIn_exit ⟨S,ρ,N,Y,h,R,y,m,b⟩
def Oi (K:St -> Ba P Γ L -> Prop) (Q:QY P Γ L):QY P Γ L
 | .normal,S,Y=>K S Y
 | e,S,Y=>Q e S Y
theorem Tr.seq {x y:Code} (h:Tr P Γ F B L Y x S (Oi (fun S' Y'=>Tr P Γ F B L Y' y S' Q) Q)):Tr P Γ F B L Y (.seq x y) S Q:=fun N ρ a w R y m b=>by
 refine wpIn_seq (zAC (h N ρ a w R y m b) ?_);rintro e a' w' ⟨S',ρ',N',Y',h1,h2,h3,h4,h5⟩;cases e with
 | normal=>exact h1 N' ρ' a' w' h2 h3 h4 h5
 | ret=>exact ⟨S',ρ',N',Y',h1,h2,h3,h4,h5⟩
 | exit id=>exact ⟨S',ρ',N',Y',h1,h2,h3,h4,h5⟩
 | goto t=>exact ⟨S',ρ',N',Y',h1,h2,h3,h4,h5⟩
 | panic c=>exact h1.elim
 | outgrown=>exact h1.elim
theorem Tr.cond {c:Operand} {x y:Code} {b:Bool} (hc:Ac S.fr c= .bool b) (h1:b=true -> Tr P Γ F B L Y x S Q) (h2:b=false -> Tr P Γ F B L Y y S Q):Tr P Γ F B L Y (.cond c x y) S Q:=fun N ρ a w R y m bb=>by
 have hr:=Bh R c;rw [hc] at hr;refine wpIn_cond (t:=b) hr ?_;cases b
 ·exact h2 rfl N ρ a w R y m bb
 ·exact h1 rfl N ρ a w R y m bb
theorem iR {F:Fence} {n:Nat} {P:Program} {Q:Exit -> Act -> World -> Prop} {a:Act} {w:World} {c:Code} (h:c.wpIn F n P (Exit.noGoto Q) a w):(Code.scope c).wpIn F n P Q a w:=by
 intro b k cs rW hb hr;have h0:(lone (b.atR a (.code (.scope c)::k)) cs w).fenced P F:=fenced_calm hb hr rfl;have s0:step P (lone (b.atR a (.code (.scope c)::k)) cs w)= .next (lone (b.atR a (.code c:: .inScope c::k)) cs w):=step_lone_go (by simp [stepG,stepG.exec,Frame.atR]);obtain ⟨e,a₁,w₁,hq,N5⟩:=h b (.inScope c::k) cs rW hb hr;have s1:step P (lone (b.atR a₁ (.inScope c::k)) cs w₁)= .next (lone (b.atR a₁ k) cs w₁):=step_lone_go (by simp [stepG,stepG.exec,Frame.atR]);cases e with
 | normal=>exact ⟨.normal,a₁,w₁,hq,.head h0 s0 (StepsIn.trans N5 (.one (fenced_calm hb hr rfl) s1))⟩
 | exit id=>exact ⟨.exit id,a₁,w₁,hq,fun k' hk=>.head h0 s0 (N5.1 k' hk),fun DC hk=>let ⟨k₁,h1,h2⟩:=N5.2 DC hk;⟨k₁,h1,.head h0 s0 h2⟩⟩
 | goto l=>exact hq.elim
 | ret=>exact ⟨_,a₁,w₁,hq,.of_steps (.one h0 s0) N5⟩
 | panic ch=>exact ⟨_,a₁,w₁,hq,.of_steps (.one h0 s0) N5⟩
 | outgrown=>exact ⟨_,a₁,w₁,hq,.of_steps (.one h0 s0) N5⟩
def oR (Q:QY P Γ L):QY P Γ L
 | .goto _,_,_=>False
 | e,S,Y=>Q e S Y
theorem Tr.scope {c:Code} (h:Tr P Γ F B L Y c S (oR Q)):Tr P Γ F B L Y (.scope c) S Q:=fun N ρ a w R y m b=>by
 refine iR (zAC (h N ρ a w R y m b) ?_);rintro e a' w' ⟨S',ρ',N',Y',h1,h2⟩;cases e with
 | goto l=>exact h1.elim
 | _=>exact ⟨S',ρ',N',Y',h1,h2⟩
theorem Tr.label {l:Nat} (h:Q .normal S Y):Tr P Γ F B L Y (.label l) S Q:=fun N ρ a w R y m b=>wpIn_label ⟨S,ρ,N,Y,h,R,y,m,b⟩
def wy (id:Nat) (Q:QY P Γ L):QY P Γ L
 | .exit i,S,Y=>if i=id then Q .normal S Y else Q (.exit i) S Y
 | e,S,Y=>Q e S Y
theorem Tr.block {id:Nat} {c:Code} (h:Tr P Γ F B L Y c S (wy id Q)):Tr P Γ F B L Y (.block id c) S Q:=fun N ρ a w R y m b=>by
 refine wpIn_block (zAC (h N ρ a w R y m b) ?_);rintro e a' w' ⟨S',ρ',N',Y',h1,h2⟩;cases e with
 | exit i=>
  show if i=id then _ else _
  by_cases e:i=id
  ·rw [xw e];have h1:(if i=id then Q .normal S' Y' else Q (.exit i) S' Y'):=h1;rw [xw e] at h1;exact ⟨S',ρ',N',Y',h1,h2⟩
  ·rw [yK e];have h1:(if i=id then Q .normal S' Y' else Q (.exit i) S' Y'):=h1;rw [yK e] at h1;exact ⟨S',ρ',N',Y',h1,h2⟩
 | normal=>exact ⟨S',ρ',N',Y',h1,h2⟩
 | ret=>exact ⟨S',ρ',N',Y',h1,h2⟩
 | goto t=>exact ⟨S',ρ',N',Y',h1,h2⟩
 | panic c=>exact h1.elim
 | outgrown=>exact h1.elim
theorem Tr.loop {c:Code} (I:Nat -> St -> Ba P Γ L -> Prop) (n:Nat) (h0:I n S Y) (h: ∀ n S Y,I n S Y -> Tr P Γ F B L Y c S (Oi (fun S' Y'=>∃ n',n'<n/\ I n' S' Y') Q)):Tr P Γ F B L Y (.loop c) S Q:=fun N ρ a w R y m b=>by
 refine wpIn_loop_ghost (fun k a' w'=>∃ S' ρ' N' Y',I k S' Y'/\ Ad P Γ N' S' ρ' a' w'/\ Y'.I N' S'.h ρ' w'/\ M0 B a'.defers w'/\ Bd F B w') n ⟨S,ρ,N,Y,h0,R,y,m,b⟩ ?_;rintro k a' w' ⟨S',ρ',N',Y',h1,h2,h3,h4,h5⟩;refine zAC (h k S' Y' h1 N' ρ' a' w' h2 h3 h4 h5) ?_;rintro e a2 w2 ⟨S2,ρ2,N2,Y2,g1,g2,g3,g4,g5⟩;cases e with
 | normal=>
  obtain ⟨n',AU,hI⟩:=g1;exact ⟨n',AU,S2,ρ2,N2,Y2,hI,g2,g3,g4,g5⟩
 | ret=>exact ⟨S2,ρ2,N2,Y2,g1,g2,g3,g4,g5⟩
 | exit id=>exact ⟨S2,ρ2,N2,Y2,g1,g2,g3,g4,g5⟩
 | goto t=>exact ⟨S2,ρ2,N2,Y2,g1,g2,g3,g4,g5⟩
 | panic c=>exact g1.elim
 | outgrown=>exact g1.elim
theorem Ad.ext {ρ:List AN} {a:Act} {w w':World} (R:Ad P Γ N S ρ a w) (hE:At w w'):Ad P Γ N S ρ a w':=⟨R.hr.ext hE,R.fr.out (Bc.ext ρ hE)⟩
theorem Tr.done {S':St} {e:Exit} {ρ ρ':List AN} {a a':Act} {w w':World} (R:Ad P Γ N S ρ a w) (y:Y.I N S.h ρ w) (m:M0 B a.defers w) (b:Bd F B w) (hk:QE Q e S' Y) (R':Ad P Γ N S' ρ' a' w') (st:BN S.h ρ w S'.h ρ' w') (Xc:D9 L ρ ρ') (Dd:a'.defers=a.defers):
 ∃ S' ρ' N' Y',QE Q e S' Y'/\ Ad P Γ N' S' ρ' a' w'/\ Y'.I N' S'.h ρ' w'/\ M0 B a'.defers w'/\ Bd F B w':=
 ⟨S',ρ',N,Y,hk,R',Y.st y R.hr R'.hr st Xc,by rw [Dd];exact Pz R.hr st m,b.step R.hr st⟩
theorem BT.fr {fr Mh:List DV} {h:DH} (hl:Mh.length=fr.length) (hd: ∀ i,i<fr.length -> AT (fr.getD i .any) (Mh.getD i .any)):BT L ⟨fr,h⟩ ⟨Mh,h⟩:=fun P Γ N ρ a w R=>
 ⟨ρ,⟨R.hr,⟨by rw [hl];exact R.fr.1,fun i hi=>hd i (by rw [←hl];exact hi) _ _ _ _ (R.fr.2 i (by rw [←hl];exact hi))⟩⟩,BN.refl _ _ _,D9.refl _ _⟩
theorem AT.refl (d:DV):AT d d:=fun _ _ _ _ h=>h
theorem AT.any (d:DV):AT d .any:=fun _ _ _ _ _=>trivial
theorem AT.int {k:IntKind} {a b:Int} (h:a=b):AT (.int k a) (.int k b):=by rw [h];exact AT.refl _
theorem AT.bool {a b:Bool} (h:a=b):AT (.bool a) (.bool b):=by rw [h];exact AT.refl _
theorem AT.ints_nil:AT .nils (.ints []):=fun M w ρ v h=>⟨none,0,h,yS _,zU _,fun j hj=>absurd hj (yN j)⟩
theorem AT.sl_nil (m:Nat) (f:Nat -> Nat -> DV):AT .nils (.sl m 0 f):=fun M w ρ v h=>⟨none,0,h,yS _,zU _,fun i j hi=>absurd hi (yN i)⟩
def forget (live:List Nat) (fr:List DV):List DV:=(fr.zipIdx).map fun x=>if live.contains x.2 then x.1 else .any
theorem u5 (live:List Nat) (fr:List DV):(forget live fr).length=fr.length:=by simp [forget]
theorem u6 (live:List Nat) (fr:List DV) {i:Nat} (hi:i<fr.length):(forget live fr).getD i .any=if live.contains i then fr.getD i .any else .any:=by
 simp [forget,hi]
theorem BT.forget (live:List Nat) (fr:List DV) (h:DH):BT L ⟨fr,h⟩ ⟨forget live fr,h⟩:=BT.fr (u5 _ _) fun i hi=>by
 rw [u6 live fr hi];split
 ·exact AT.refl _
 ·exact AT.any _
def DY:List Nat -> Nat -> Option Nat
 | [],_=>none
 | x::σ,k=>if x=k then some 0 else (DY σ k).map (· +1)
def E8 (σ:List Nat):DV -> DV
 | .ref k j=>match DY σ k with
  | some k'=>.ref k' j
  | none=>.any
 | .mse k m off n=>match DY σ k with
  | some k'=>.mse k' m off n
  | none=>.any
 | .mri k i=>match DY σ k with
  | some k'=>.mri k' i
  | none=>.any
 | .msl k m off n=>match DY σ k with
  | some k'=>.msl k' m off n
  | none=>.any
 | .mp k m i j=>match DY σ k with
  | some k'=>.mp k' m i j
  | none=>.any
 | .it k=>match DY σ k with
  | some k'=>.it k'
  | none=>.any
 | .agg m f=>.agg m fun j=>((List.range m).map fun i=>E8 σ (f i)).getD j .any
 | .tup m f=>.tup m fun j=>((List.range m).map fun i=>E8 σ (f i)).getD j .any
 | .fn g m c=>.fn g m fun j=>((List.range m).map fun i=>E8 σ (c i)).getD j .any
 | d=>d
def SU (σ:List Nat):Option DO -> Option DO
 | some (.cells l)=>some (.cells (l.map (E8 σ)))
 | o=>o
def FI (σ:List Nat) (S:St):St:=⟨S.fr.map (E8 σ),σ.map fun k=>SU σ (S.h.getD k none)⟩
theorem JS: ∀ {σ:List Nat} {k k':Nat},DY σ k=some k' -> σ[k']? =some k
 | [],_,_,h=>by cases h
 | x::σ,k,k',h=>by
  unfold DY at h;split at h
  ·rename_i e;cases h;subst e;rfl
  ·cases hr:DY σ k with
   | none=>rw [hr] at h;cases h
   | some i=>
    rw [hr] at h;have e:k'=i+1:=(yH h).symm;subst e;have:=JS hr;simpa using this
theorem nF {f:Nat -> DV} {m j:Nat} (hj:j<m):((List.range m).map f).getD j .any=f j:=by simp [hj]
theorem Vu {M:Nat -> Prop} {w:World} {ρ:List AN} {f:Nat -> DV} {m j:Nat} {u:Value} (hj:j<m) (h:AO M w (f j) ρ u):AO M w (((List.range m).map f).getD j .any) ρ u:=by rw [nF hj];exact h
theorem ml {M M':Nat -> Prop} {w:World} {σ:List Nat} {ρ ρ':List AN} (hM: ∀ b,M' b -> M b) (hρ: ∀ (k k':Nat) (p:AN),σ[k']? =some k -> ρ[k]? =some p -> ρ'[k']? =some p): ∀ (d:DV) {v:Value},AO M w d ρ v -> AO M' w (E8 σ d) ρ' v:=by
 have low: ∀ (d:DV) {v:Value},AO M w d [] v -> AO M' w d [] v:=fun d v h=>h.out d ⟨fun _ _ _ _=>rfl,fun b hb=>.inl (hM b hb),fun k p hk=>by simp at hk⟩
 intro d
 induction d with
 | any=>intro v _;trivial
 | nils=>intro v h;exact h
 | int k n=>intro v h;exact h
 | bool b=>intro v h;exact h
 | str s=>intro v h;exact h
 | ints l=>intro v h;exact low (.ints l) h
 | bools l=>intro v h;exact low (.bools l) h
 | sl m n f _=>intro v h;exact low (.sl m n f) h
 | fp m f _=>intro v h;exact low (.fp m f) h
 | agg m f ih=>
  rintro v ⟨cs,e,hs,h⟩;exact ⟨cs,e,hs,fun j hj=>let ⟨u,h1,h2⟩:=h j hj;⟨u,h1,Vu hj (ih j h2)⟩⟩
 | tup m f ih=>
  rintro v ⟨cs,e,hs,h⟩;exact ⟨cs,e,hs,fun j hj=>let ⟨u,h1,h2⟩:=h j hj;⟨u,h1,Vu hj (ih j h2)⟩⟩
 | fn g m c ih=>
  rintro v ⟨cs,e,hs,h⟩;exact ⟨cs,e,hs,fun j hj=>let ⟨u,h1,h2⟩:=h j hj;⟨u,h1,Vu hj (ih j h2)⟩⟩
 | ref k j=>
  rintro v ⟨p,hp,e⟩;simp only [E8];cases hk:DY σ k with
  | none=>trivial
  | some k'=>exact ⟨p,hρ k k' p (JS hk) hp,e⟩
 | msl k m off n=>
  rintro v ⟨p,cap,hp,r⟩;simp only [E8];cases hk:DY σ k with
  | none=>trivial
  | some k'=>exact ⟨p,cap,hρ k k' p (JS hk) hp,r⟩
 | mp k m i j=>
  rintro v ⟨p,hp,e⟩;simp only [E8];cases hk:DY σ k with
  | none=>trivial
  | some k'=>exact ⟨p,hρ k k' p (JS hk) hp,e⟩
 | yl l=>intro v h;exact h
 | cst u=>intro v h;exact h
 | mse k m off n=>
  rintro v ⟨p,a,cap,hp,r⟩;simp only [E8];cases hk:DY σ k with
  | none=>trivial
  | some k'=>exact ⟨p,a,cap,hρ k k' p (JS hk) hp,r⟩
 | mri k i=>
  rintro v ⟨p,vs,hp,r⟩;simp only [E8];cases hk:DY σ k with
  | none=>trivial
  | some k'=>exact ⟨p,vs,hρ k k' p (JS hk) hp,r⟩
 | it k=>
  rintro v ⟨p,hp,e⟩;simp only [E8];cases hk:DY σ k with
  | none=>trivial
  | some k'=>exact ⟨p,hρ k k' p (JS hk) hp,e⟩
def cE:AN:=⟨0,0,0,undef,fun _=>False⟩
theorem BT.compact (σ:List Nat) (S:St) (h1:σ.Nodup) (h2: ∀ k∈σ,k<S.h.length) (h3: ∀ k,k<L -> σ[k]? =some k):BT L S (FI σ S):=fun P Γ N ρ a w R=>by
 obtain ⟨ρ',Jl⟩: ∃ ρ',ρ'=σ.map fun k=>ρ.getD k cE:=⟨_,rfl⟩
 have H7: ∀ {k':Nat} {p:AN},ρ'[k']? =some p -> ∃ k,σ[k']? =some k/\ ρ[k]? =some p:=fun {k' p} h=>by
  rw [Jl,ye] at h;cases hk:σ[k']? with
  | none=>rw [hk] at h;cases h
  | some k=>
   rw [hk] at h;have AU:k<ρ.length:=by rw [R.hr.len];exact h2 k (zF hk)
   refine ⟨k,rfl,?_⟩;simp [AU] at h;simp [AU,h]
 have put: ∀ (k k':Nat) (p:AN),σ[k']? =some k -> ρ[k]? =some p -> ρ'[k']? =some p:=fun k k' p hk hp=>by
  rw [Jl,ye,hk];simp [u8,hp]
 have H3: ∀ {k':Nat} {o':DO},(FI σ S).h[k']? =some (some o') -> ∃ k o,σ[k']? =some k/\ S.h[k]? =some (some o)/\ SU σ (some o)=some o':=fun {k' o'} h=>by
  show ∃ k o,_
  have h:(σ.map fun k=>SU σ (S.h.getD k none))[k']? =some (some o'):=h;rw [ye] at h;cases hk:σ[k']? with
  | none=>rw [hk] at h;cases h
  | some k=>
   rw [hk] at h;have AU:k<S.h.length:=h2 k (zF hk);have h:SU σ (S.h.getD k none)=some o':=yH h;have e:S.h.getD k none=S.h[k]:=by simp [AU]
   rw [e] at h;cases ho:S.h[k] with
   | none=>rw [ho] at h;cases h
   | some o=>rw [ho] at h;exact ⟨k,o,rfl,by simp [AU,ho],h⟩
 have hM: ∀ b,MO (FI σ S).h ρ' b -> MO S.h ρ b:=by
  rintro b ⟨k',o',p,g1,g2,g3⟩;obtain ⟨k,o,e1,e2,_⟩:=H3 g1;obtain ⟨k2,e3,e4⟩:=H7 g2;have:k2=k:=yH (e3.symm.trans e1);subst this;exact ⟨k2,o,p,e2,e4,g3⟩
 have X0: ∀ b,MS N (FI σ S).h ρ' b -> MS N S.h ρ b:=fun b hb=>hb.imp id (hM b)
 have O:Bc (MS N S.h ρ) w [] (MS N (FI σ S).h ρ') w []:=⟨fun _ _ _ _=>rfl,fun b hb=>.inl (X0 b hb),fun k p hk=>by simp at hk⟩;have low: ∀ (d:DV) {v:Value},AO (MS N S.h ρ) w d ρ v -> AO (MS N (FI σ S).h ρ') w (E8 σ d) ρ' v:=fun d v h=>ml X0 put d h
 refine ⟨ρ',⟨⟨by simp [Jl,FI],fun k' o' Cl=>?_,fun k' o' p b g1 g2 g3=>?_,fun i i' o1 o2 p1 p2 b Aw g1 g2 g3 g4 g5 g6=>?_,R.hr.nlt,R.hr.gi⟩,⟨by simp [FI,R.fr.1],fun i hi=>?_⟩⟩,⟨AP.refl _ w,fun b hb=>.inl (hM b hb)⟩,fun k p hk hp=>put k k p (h3 k hk) hp⟩
 ·obtain ⟨k,o,e1,e2,e3⟩:=H3 Cl;obtain ⟨p,hp,hr⟩:=R.hr.obj k o e2;refine ⟨p,put k k' p e1 hp,?_⟩;cases o with
  | cells l=>
   cases e3
   show Ai w p (l.map (E8 σ)).length _
   rw [zE];refine Ai.out hr rfl fun j u hj hu=>?_
   have:(l.map (E8 σ)).getD j .any=E8 σ (l.getD j .any):=by simp [hj]
   rw [this];exact low _ hu
  | ints l=>cases e3;exact Ai.out hr rfl fun j u _ hu=>hu
  | bools l=>cases e3;exact Ai.out hr rfl fun j u _ hu=>hu
  | arr m n f=>cases e3;exact Ai.out hr rfl fun j u _ hu=>AO.out _ O hu
  | iter encs=>
   cases e3;obtain ⟨gf,lb,Rd,q1,q2,q3,q4⟩:=hr;exact ⟨gf,lb,Rd,q1,q2,fun b hb=>⟨fun hm=>(q3 b hb).1 (X0 b hm),(q3 b hb).2⟩,q4⟩
  | mo x=>cases e3;exact hr
 ·obtain ⟨k,o,e1,e2,_⟩:=H3 g1;obtain ⟨k2,e3,e4⟩:=H7 g2;have:k2=k:=yH (e3.symm.trans e1);subst this;exact R.hr.cel k2 o p b e2 e4 g3
 ·obtain ⟨k,o,e1,e2,_⟩:=H3 g1;obtain ⟨k2,o2,e3,e4,_⟩:=H3 g2;obtain ⟨k3,e5,e6⟩:=H7 g3;obtain ⟨k4,e7,e8⟩:=H7 g4;have:k3=k:=yH (e5.symm.trans e1);subst this;have:k4=k2:=yH (e7.symm.trans e3);subst this;refine R.hr.dis k3 k4 o o2 p1 p2 b (fun e=>Aw ?_) e2 e4 e6 e8 g5 g6;subst e;exact (List.getElem?_inj (yI.1 e5).1 h1).1 (e5.trans e7.symm)
 ·have BM:i<S.fr.length:=by simpa [FI] using hi
  have:(FI σ S).fr.getD i .any=E8 σ (S.fr.getD i .any):=by simp [FI,BM]
  rw [this];exact low _ (R.fr.2 i BM)
end
end Go.Proofs.YtgkhhfnhacibcaaGreatDoor
namespace Go.Proofs.YtgkhhfnhacibcaaGreatDoor
open Go.RowKit
def bD (P:Program) (S:St):ResultVar -> Option DV
 | .tmp t=>some (S.fr.getD t .any)
 | .cell x t=>match S.fr.getD x .any with
  | .ref k j=>match L6 P S t (.ref k j) with
   | some (d,_)=>some d
   | none=>none
  | _=>none
def NQ (P:Program) (S:St):List ResultVar -> Option (List DV)
 | []=>some []
 | r::rs=>match bD P S r with
  | some d=>match NQ P S rs with
   | some ds=>some (d::ds)
   | none=>none
  | none=>none
def IR:List DV -> DV
 | [d]=>d
 | ds=>.tup ds.length fun j=>ds.getD j .any
section
variable {P:Program} {Γ:BB} {N:Nat -> Prop} {S:St} {ρ:List AN} {a:Act} {w:World}
theorem pT {t:TypeId} {k j:Nat} {d:DV} {vc:Prop} (h:L6 P S t (.ref k j)=some (d,vc)):vc:=by
 unfold L6 at h
 repeat' (split at h)
 all_goals first | (cases h;trivial) | (cases h;done) | (simp_all;done)
def SS (tmps:Array Value):ResultVar -> Sem Value
 | .tmp t=>pure (tmps.getD t undef)
 | .cell x t=>do loadVar t (←asAddr (tmps.getD x undef))
theorem bE (R:Ad P Γ N S ρ a w): ∀ (rs:List ResultVar) (ds:List DV),NQ P S rs=some ds -> ∃ vs:List Value,(rs.mapM (SS a.tmps)).run P w= .ok vs w/\ vs.length=ds.length/\ ∀ i,i<ds.length -> AO (MS N S.h ρ) w (ds.getD i .any) ρ (vs.getD i undef)
 | [],ds,h=>by
  cases h;exact ⟨[],rfl,rfl,fun i hi=>absurd hi (yN i)⟩
 | r::rs,ds,h=>by
  simp only [NQ] at h;split at h
  ·rename_i d hd;split at h
   ·rename_i vi FH;cases h;obtain ⟨vs,h1,h2,h3⟩:=bE R rs vi FH
    obtain ⟨v,g1,g2⟩: ∃ v,(SS a.tmps r).run P w= .ok v w/\ AO (MS N S.h ρ) w d ρ v:=by
     unfold bD at hd;split at hd
     ·cases hd;exact ⟨_,rfl,R.fr.at _⟩
     ·rename_i x t;split at hd
      ·rename_i k j e;split at hd
       ·rename_i d' vc hl;cases hd;have hx:=R.fr.at x;rw [e] at hx;obtain ⟨v,q1,q2⟩:=cc R hx hl (pT hl);obtain ⟨p,hp,hv⟩:=hx;have q:=q1 w (Keep.ofExt (At.refl w));rw [hv,Vj] at q;refine ⟨v,?_,q2⟩
        show (do loadVar t (←asAddr (a.tmps.getD x undef)):Sem Value).run P w=_
        rw [hv];exact q
       ·cases hd
      ·cases hd
    refine ⟨v::vs,?_,by simp [h2],fun i hi=>?_⟩
    ·rw [List.mapM_cons,yT,g1];simp only [Result.andThen,yT,h1,zAi]
    ·cases i with
     | zero=>exact g2
     | succ i=>exact h3 i (by simpa using hi)
   ·cases h
  ·cases h
theorem bC (R:Ad P Γ N S ρ a w) {fn:Func} {ds:List DV} (h:NQ P S fn.results.toList=some ds): ∃ v,(results fn a.tmps).run P w= .ok v w/\ AO (MS N S.h ρ) w (IR ds) ρ v:=by
 obtain ⟨vs,h1,h2,h3⟩:=bE R _ _ h
 have hm:(fn.results.mapM (SS a.tmps)).run P w= .ok vs.toArray w:=by
  rw [Array.mapM_eq_mapM_toList,←bind_pure_comp,yT,h1];rfl
 have Ti:(results fn a.tmps).run P w= .ok (if h:vs.toArray.size=1 then vs.toArray[0] else .tuple vs.toArray) w:=by
  show (do let vs←fn.results.mapM (SS a.tmps);pure (if h:vs.size=1 then vs[0] else .tuple vs):Sem Value).run P w=_
  rw [yT,hm];rfl
 refine ⟨_,Ti,?_⟩
 match ds,vs,h2,h3 with
 | [],[],_,_=>exact ⟨#[],rfl,rfl,fun j hj=>absurd hj (yN j)⟩
 | [d],[v],_,h3=>exact h3 0 (by simp)
 | d::d'::ds,v::v'::vs,h2,h3=>
  have: ¬ ((v::v'::vs).toArray.size=1):=by simp
  rw [dif_neg this];refine ⟨_,rfl,by simpa using h2,fun j hj=>?_⟩;have BX:j<(v::v'::vs).length:=by rw [h2];exact hj
  exact ⟨(v::v'::vs).getD j undef,by simp only [zAy,u8,xy BX];rfl,h3 j hj⟩
def Pu (h:DH):Prop:=∀ (k:Nat) (encs:List (Array Value)),h[k]? ≠some (some (.iter encs))
theorem Ad.shut (R:Ad P Γ N S ρ a w) (hi:Pu S.h) {B:Nat} (hB:Γ.ng<=B) {W:World} (hs:RT B w W):Ad P Γ N S ρ a W:=by
 have nc: ∀ {b:Nat},C7 w b -> W.heap[b]? =w.heap[b]? :=fun {b} ⟨c,t,z,h⟩=>
  hs.block b (xz.1 h).1 fun hx=>by rw [h] at hx;cases hx.2;cases t
 have O:Bc (MS N S.h ρ) w ρ (MS N S.h ρ) W ρ:=⟨fun b _ _ ⟨_,_,_,hc⟩=>nc (.cells hc),fun b h=>.inl h,fun _ _ h=>h⟩
 have hr: ∀ {p:AN} {n:Nat} {Rw:Nat -> Value -> Prop},Ai w p n Rw -> W.heap[p.blk]? =w.heap[p.blk]? :=fun {p n Rw} h=>by
  obtain ⟨_,cs,t,h2,_⟩:=h;exact nc (.cells h2)
 refine ⟨⟨R.hr.len,fun k o hk=>?_,fun k o p b h1 h2 h3=>?_,R.hr.dis,fun b hb=>⟨yM (R.hr.nlt b hb).1 hs.size,(R.hr.nlt b hb).2⟩,Γ.st _ _ R.hr.gi (hs.mono fun i _ hx=>yO hB hx.1)⟩,R.fr.out O⟩
 ·obtain ⟨p,hp,ho⟩:=R.hr.obj k o hk;refine ⟨p,hp,?_⟩;cases o with
  | cells l=>exact Ai.out ho (hr ho) fun j u _ hu=>AO.out _ O hu
  | ints l=>exact Ai.out ho (hr ho) fun j u _ hu=>hu
  | bools l=>exact Ai.out ho (hr ho) fun j u _ hu=>hu
  | arr m n f=>exact Ai.out ho (hr ho) fun j u _ hu=>AO.out _ O.nil hu
  | iter encs=>exact absurd hk (hi k encs)
  | mo x=>exact LN.out ho fun b hb AU=>nc (R.hr.cel k _ p b hk hp hb).2.2
 ·obtain ⟨g1,g2,c,t,z,g3⟩:=R.hr.cel k o p b h1 h2 h3;exact ⟨g1,g2,c,t,z,(nc ⟨c,t,z,g3⟩).trans g3⟩
theorem BN.shut {h0 h:DH} {ρ0 ρ:List AN} {w0 w W:World} (st:BN h0 ρ0 w0 h ρ w) (hs:RT w0.heap.size w W):BN h0 ρ0 w0 h ρ W:=
 ⟨st.upd.comp hs fun i hi hx=>absurd hx.1 (by omega),st.grow⟩
theorem B1.anys (M:Nat -> Prop) (w:World) (ρ:List AN) (n:Nat):B1 M w ρ (List.replicate n .any) (Array.replicate n undef):=
 ⟨by simp,fun i hi=>by
  have:(List.replicate n DV.any).getD i .any= .any:=by
   rw [u8,zQ];split <;> rfl
  rw [this];trivial⟩
def HZ (d:DV):Prop:=∀ (M:Nat -> Prop) (w:World) (ρ:List AN) (v:Value),AO M w d ρ v -> AO M w d [] v
def xt (L:Nat) (S:St) (rs:List DV) (d:DV) (h':DH):Prop:=
 (AT (IR rs) d/\ S.h=h')∨(Pu S.h/\ AT (IR rs) d/\ HZ d/\ L<=S.h.length/\ (FI (List.range L) S).h=h')
def Fg (P:Program) (fn:Func) (L:Nat) (d:DV) (h':DH) (e:Exit) (S':St):Prop:=
 (e= .normal∨e= .ret)/\ ∃ CV,BT L S' CV/\ ∃ rs,NQ P CV fn.results.toList=some rs/\ xt L CV rs d h'
theorem ES.of_tr {f:Nat} {fn:Func} {c:Code} {ds:List DV} {h:DH} {d:DV} {h':DH} {ext:Bool} (hf:P.funcs[f]? =some fn) (hb:fn.body=some c) (Jq:fn.name≠ "runtime.NumGoroutine") (QX:Pu h')
 (H: ∀ (B:Nat) (N:Ba P Γ h.length),Tr P Γ Fence.wide (some B) h.length N c ⟨ds++List.replicate (fn.ntmps-ds.length) .any,h⟩ (fun e S Y=>Y=N/\ Fg P fn h.length d h' e S)) (Is:ext=true -> h= []):ES P Γ f ds h d h' ext:=by
 refine ⟨⟨fn,hf,Jq,by rw [hb];rfl⟩,fun N ρ w args HR Ce=>?_⟩;refine wn w.heap.size hf hb ?_;have A3:ds.length=args.size:=Ce.1
 have R:Ad P Γ N ⟨ds++List.replicate (fn.ntmps-ds.length) .any,h⟩ ρ { tmps:=args++Array.replicate (fn.ntmps-args.size) undef,defers:=[] } w:=
  ⟨HR,B1.append Ce (by rw [A3];exact B1.anys _ _ _ _)⟩
 have:=H w.heap.size (Ow P Γ h.length N h ρ w) N ρ _ w R ⟨rfl,BN.refl _ _ _,D9.refl _ _⟩ trivial (Bd.wide (yS _));refine wpIn_wide.1 (zAC this ?_);rintro e a' w' ⟨S',ρ',N',Y',h1,h2,h3,h4,h5⟩
 have key:Y'=Ow P Γ h.length N h ρ w -> Fg P fn h.length d h' e S' -> D8 w.heap.size a'.defers w'/\ ∀ W,RT w.heap.size w' W -> ∃ v,(results fn a'.tmps).run P W= .ok v W/\ ∃ v',Ending.returned v= .returned v'/\ C1 P Γ N h ρ w ext d h' v' W:=by
  rintro rfl ⟨_,CV,CC,rs,Tg,hd | ⟨hi,hd,hn,hl,hh⟩⟩
  all_goals
   obtain ⟨e0,h3,h5⟩:=h3;have e0:=e0.symm;subst e0
  ·obtain ⟨hd,rfl⟩:=hd;refine ⟨h4,fun W hW=>?_⟩;obtain ⟨ρ'',FM,VM,Wm⟩:=CC P Γ N ρ' a' w' h2;have RW:=FM.shut QX (Γ.lo _ HR.gi) hW;obtain ⟨v,g1,g2⟩:=bC RW Tg;have st:BN h ρ w CV.h ρ'' W:=(h3.trans VM).shut hW;refine ⟨v,g1,v,rfl,⟨⟨ρ'',RW.hr,hd _ _ _ _ g2,st,fun k p hp=>?_⟩,fun he=>?_⟩⟩
   ·have hk:k<h.length:=by rw [←HR.len];exact (yI.1 hp).1
    exact Wm k p hk (h5 k p hk hp)
   ·have:=Is he;subst this;exact st.upd.toExt fun i _ ⟨k,o,p,q1,_⟩=>by simp at q1
  ·refine ⟨h4,fun W hW=>?_⟩;obtain ⟨ρ'',FM,VM,Wm⟩:=CC P Γ N ρ' a' w' h2;have RW:=FM.shut hi (Γ.lo _ HR.gi) hW;obtain ⟨v,g1,g2⟩:=bC RW Tg;have st:BN h ρ w CV.h ρ'' W:=(h3.trans VM).shut hW;obtain ⟨ρ3,R3,KQ,k3⟩:=BT.compact (L:=h.length) (List.range h.length) CV List.nodup_range (fun k hk=>yM (yR.1 hk) hl) (fun k hk=>by simp [hk]) P Γ N ρ'' a' W RW;rw [hh] at KQ;have iL:=R3.hr;rw [hh] at iL;refine ⟨v,g1,v,rfl,⟨⟨ρ3,iL,?_,st.trans KQ,fun k p hp=>?_⟩,fun he=>?_⟩⟩
   ·have r0:=hn _ _ _ _ (hd _ _ _ _ g2);have r1:AO (MS N h' ρ3) W d [] v:=AO.out _ ⟨fun _ _ _ _=>rfl,fun b hb=>hb.elim (fun hx=>.inl (.inl hx)) fun hx=>(KQ.grow b hx).imp .inr id,fun _ _ hx=>by simp at hx⟩ r0;exact AO.out _ ⟨fun _ _ _ _=>rfl,fun b hb=>.inl hb,fun _ _ hx=>by simp at hx⟩ r1
   ·have hk:k<h.length:=by rw [←HR.len];exact (yI.1 hp).1
    exact k3 k p hk (Wm k p hk (h5 k p hk hp))
   ·have:=Is he;subst this;exact (st.trans KQ).upd.toExt fun i _ ⟨k,o,p,q1,_⟩=>by simp at q1
 cases e with
 | normal=>exact key h1.1 h1.2
 | ret=>exact key h1.1 h1.2
 | exit id=>exact absurd h1.2.1 (by simp)
 | goto t=>exact absurd h1.2.1 (by simp)
 | panic ch=>exact h1.elim
 | outgrown=>exact h1.elim
def GX (d:DV):Prop:=∀ (M M':Nat -> Prop) (w w':World) (ρ ρ':List AN) (v:Value),AO M w d ρ v -> AO M' w' d ρ' v
theorem HZ.agg {m:Nat} {f:Nat -> DV} (h: ∀ j,j<m -> HZ (f j)):HZ (.agg m f):=fun M w ρ _ ⟨cs,e,hs,hc⟩=>⟨cs,e,hs,fun j hj=>let ⟨u,h1,h2⟩:=hc j hj;⟨u,h1,h j hj M w ρ u h2⟩⟩
theorem HZ.tup {m:Nat} {f:Nat -> DV} (h: ∀ j,j<m -> HZ (f j)):HZ (.tup m f):=fun M w ρ _ ⟨cs,e,hs,hc⟩=>⟨cs,e,hs,fun j hj=>let ⟨u,h1,h2⟩:=hc j hj;⟨u,h1,h j hj M w ρ u h2⟩⟩
theorem GX.int (k:IntKind) (n:Int):GX (.int k n):=fun _ _ _ _ _ _ _ h=>h
theorem GX.bool (b:Bool):GX (.bool b):=fun _ _ _ _ _ _ _ h=>h
theorem GX.tup {m:Nat} {f:Nat -> DV} (h: ∀ j,j<m -> GX (f j)):GX (.tup m f):=fun M M' w w' ρ ρ' _ ⟨cs,e,hs,hc⟩=>⟨cs,e,hs,fun j hj=>let ⟨u,h1,h2⟩:=hc j hj;⟨u,h1,h j hj M M' w w' ρ ρ' u h2⟩⟩
theorem Nr {M:Nat -> Prop} (hM: ∀ b,M b -> b<w.heap.size/\ Γ.ng<=b) (hg:Γ.gi w):BY P Γ M [] [] w:=
 ⟨rfl,fun k o hk=>by simp at hk,fun k o p b h1=>by simp at h1,fun k k' o o' p p' b _ h1=>by simp at h1,hM,hg⟩
theorem M3 {M:Nat -> Prop} {b:Nat}:MS M [] [] b↔M b:=⟨fun h=>h.elim id fun ⟨k,o,p,h1,_⟩=>by simp at h1,.inl⟩
theorem ES.frame {f:Nat} {ds:List DV} {d:DV} (h0:ES P Γ f ds [] d [] true) (FH: ∀ x∈ds,HZ x) (h:DH):ES P Γ f ds h d h true:=by
 refine ⟨h0.1,fun N ρ w args HR Ce=>?_⟩;refine (h0.2 (MS N h ρ) [] w args (Nr (fun b hb=>HR.lt2 hb) HR.gi) ⟨Ce.1,fun i hi=>?_⟩).mono ?_
 ·have hx:=FH (ds.getD i .any) (by simp [hi]);exact AO.out _ (DZ (fun b hb=>M3.1 hb) []) (hx _ _ _ _ (Ce.2 i hi))
 ·rintro e w' ⟨v,rfl,⟨⟨ρ',g1,g2,g3,g4⟩,g5⟩⟩;have hE:=g5 rfl;have hρ:ρ'= []:=zT (by rw [g1.len];rfl);subst hρ;exact ⟨v,rfl,⟨⟨ρ,HR.ext hE,PU (AO.out _ (DZ (fun b hb=>M3.2 hb) []) g2),BN.ext hE,fun _ _ h=>h⟩,g5⟩⟩
def Ab (h:DH) (d d0:DV):Prop:=∀ (P:Program) (Γ:BB) (N:Nat -> Prop) (ρ:List AN) (w:World) (v:Value),BY P Γ N h ρ w -> AO (MS N h ρ) w d ρ v -> AO (fun _=>False) w d0 [] v
theorem Ab.nref {h:DH} {d:DV} (hn:HZ d):Ab h d d:=fun _ _ _ _ _ _ _ hr=>AO.out _ (DZ (fun _ hb=>hb.elim) []) (hn _ _ _ _ hr)
theorem Ab.ints {h:DH} {k n:Nat} {l:List Int} (hk:h[k]? =some (some (.ints l))) (hn:n=l.length):Ab h (.msl k 1 0 n) (.ints l):=by
 rintro P Γ N ρ w v H ⟨p,cap,hp,e,g1,g2,_⟩;subst hn;obtain ⟨p',BJ,hr⟩:=H.obj k _ hk;have ep:p'=p:=yH (BJ.symm.trans hp);subst ep;refine ⟨_,cap,e,g1,g2,fun j hj=>⟨p'.blk,p'.off,by simp,id,?_⟩⟩;obtain ⟨u,e1,e2⟩:=Ai.cell hr hj;rw [e1,e2]
theorem Ab.bools {h:DH} {k n:Nat} {l:List Bool} (hk:h[k]? =some (some (.bools l))) (hn:n=l.length):Ab h (.msl k 1 0 n) (.bools l):=by
 rintro P Γ N ρ w v H ⟨p,cap,hp,e,g1,g2,_⟩;subst hn;obtain ⟨p',BJ,hr⟩:=H.obj k _ hk;have ep:p'=p:=yH (BJ.symm.trans hp);subst ep;refine ⟨_,cap,e,g1,g2,fun j hj=>⟨p'.blk,p'.off,by simp,id,?_⟩⟩;obtain ⟨u,e1,e2⟩:=Ai.cell hr hj;rw [e1,e2]
theorem Ab.ref {h:DH} {k m:Nat} {l:List DV} {f:Nat -> DV} (hk:h[k]? =some (some (.cells l))) (hm:m<=l.length) (hf: ∀ j,j<m -> Ab h (l.getD j .any) (f j)):Ab h (.ref k 0) (.fp m f):=by
 rintro P Γ N ρ w v H ⟨p,hp,e⟩;obtain ⟨p',BJ,hr⟩:=H.obj k _ hk;have ep:p'=p:=yH (BJ.symm.trans hp);subst ep;refine ⟨p'.blk,p'.off,e,fun j hj=>⟨id,?_⟩⟩;obtain ⟨u,e1,e2⟩:=Ai.cell hr (j:=j) (by omega);exact ⟨u,e1,hf j hj P Γ N ρ w u H e2⟩
theorem ES.snap {f:Nat} {ds Df:List DV} {d:DV} (h0:ES P Γ f Df [] d [] true) (h:DH) (hl:Df.length=ds.length) (hs: ∀ i,i<ds.length -> Ab h (ds.getD i .any) (Df.getD i .any)) (hd:GX d):ES P Γ f ds h d h true:=by
 refine ⟨h0.1,fun N ρ w args HR Ce=>?_⟩;refine (h0.2 (fun _=>False) [] w args (Nr (fun b hb=>hb.elim) HR.gi) ⟨by rw [hl];exact Ce.1,fun i hi=>?_⟩).mono ?_
 ·rw [hl] at hi;exact AO.out _ (DZ (fun b hb=>M3.1 hb) []) (hs i hi P Γ N ρ w _ HR (Ce.2 i hi))
 ·rintro e w' ⟨v,rfl,⟨⟨ρ',g1,g2,g3,g4⟩,g5⟩⟩;have hE:=g5 rfl;exact ⟨v,rfl,⟨⟨ρ,HR.ext hE,hd _ _ _ _ _ _ _ g2,BN.ext hE,fun _ _ h=>h⟩,g5⟩⟩
end
end Go.Proofs.YtgkhhfnhacibcaaGreatDoor
namespace Go.Proofs.YtgkhhfnhacibcaaGreatDoor
open Go.RowKit
section
variable {F:Fence} {n:Nat} {P:Program} {ops:Array Oper} {Q:Exit -> Act -> World -> Prop}
def G5 (F:Fence) (n:Nat) (P:Program) (ops:Array Oper) (Q:Exit -> Act -> World -> Prop) (R:Nat -> World -> World -> Prop):Nat -> Array Bool -> Act -> World -> Prop
 | 0,AY,a,w=>(∀ j,j<ops.size -> AY.getD j true=true)/\ Q .normal a w
 | m+1,AY,a,w=>Region.ready .any ops AY≠[]/\ ∀ i∈Region.ready .any ops AY,wpOpIn F n P ops (NP Q) i (fun a' w'=>R i w w'/\ G5 F n P ops Q R m (AY.setIfInBounds i true) a' w') a w
theorem ZB {R R':Nat -> World -> World -> Prop} (hR: ∀ i w w',R' i w w' -> R i w w'): ∀ (m:Nat) (AY:Array Bool) (a:Act) (w:World),G5 F n P ops Q R' m AY a w -> G5 F n P ops Q R m AY a w
 | 0,_,_,_,h=>h
 | m+1,_,_,_,h=>⟨h.1,fun i hi=>zAY (fun _ _ h'=>⟨hR _ _ _ h'.1,ZB hR m _ _ _ h'.2⟩) (h.2 i hi)⟩
theorem mm {AY:Array Bool} (h: ∀ j,j<ops.size -> AY.getD j true=true):Region.ready .any ops AY= []:=by
 cases hr:Region.ready .any ops AY with
 | nil=>rfl
 | cons i l=>
  have hi:i∈Region.ready .any ops AY:=by rw [hr];simp
  obtain ⟨h1,oi,h2,_⟩:=zAf.1 hi;rw [h i (xz.1 h2).1] at h1;cases h1
theorem ZG {R:Nat -> World -> World -> Prop}: ∀ (m:Nat) (AY:Array Bool) (a:Act) (w:World),G5 F n P ops Q R m AY a w -> wpAnyIn F n P .any ops Q m AY a w
 | 0,_,_,_,h=>⟨mm h.1,h.2⟩
 | m+1,_,_,_,h=>⟨fun h0=>absurd h0 h.1,fun i hi=>zAY (fun a' w' h'=>ZG m _ a' w' h'.2) (ZD (h.2 i hi))⟩
theorem iQ (hF: ∀ f,F.fn f) (BD:Dl ops=true) {R:Nat -> World -> World -> Prop} {T:World -> Prop} {i:Nat} {oi:Oper} {v:Value} (hi:ops[i]? =some oi) (QV: ∀ (j:Nat) (o:Oper) cs b,ops[j]? =some o -> o.op≠.select cs b) (eS: ∀ w,R i w w):
 ∀ (m:Nat) (AY:Array Bool) (a:Act) (w:World),Fh ops AY ->
  (∀ j oj,ops[j]? =some oj -> j≠i -> AY.getD j true=false -> (∀ e∈oj.after,Region.binds .any e=true -> e.on≠i) -> oi.apart ops oj=true) ->
  (∀ j,j<ops.size -> j≠i -> AY.getD j true=false -> Fj ops ops.size j i=false -> ∀ w w',T w -> R j w w' -> T w') ->
  i∈Region.ready .any ops AY -> YieldsIf P ops T oi v a -> T w ->
  G5 F n P ops Q R m (AY.setIfInBounds i true) (a.put oi.dst v) w -> G5 F n P ops Q R (m+1) AY a w:=by
 intro m
 induction m with
 | zero=>
  intro AY a w Bj _ _ hr hy hS H;have MR:=(zAf.1 hr).1;refine ⟨fun h=>(by rw [h] at hr;cases hr),fun j hj=>?_⟩
  by_cases EF:j=i
  ·subst EF;exact Rb hF (Hr BD hi) hi hy hS ⟨eS w,H⟩
  ·exfalso
   obtain ⟨Iq,oj,Fc,HL⟩:=zAf.1 hj;have Nv:=(xz.1 Fc).1;have:=H.1 j Nv;rw [getD_set_ne true (zAh EF),Iq] at this;cases this
 | succ m ih=>
  intro AY a w Bj Qe hT hr hy hS H;have MR:=(zAf.1 hr).1;refine ⟨fun h=>(by rw [h] at hr;cases hr),fun j hj=>?_⟩
  by_cases EF:j=i
  ·subst EF;exact Rb hF (Hr BD hi) hi hy hS ⟨eS w,H⟩
  ·have h1:=H.2 j (ready_mono hj EF);obtain ⟨Iq,oj,Fc,HL⟩:=zAf.1 hj;have Nv:=(xz.1 Fc).1
   have tM:Fj ops ops.size j i=false:=by
    cases hx:Fj ops ops.size j i with
    | false=>rfl
    | true=>
     have:=U8 Bj _ j i oj Fc HL hx;rw [T7 MR] at this;cases this
   have XX: ∀ e∈oj.after,Region.binds .any e=true -> e.on≠i:=fun e he hb Xj=>by
    have h1:=HL e he hb;rw [Xj,T7 MR] at h1;cases h1
   have h2:=ZC hF (Hr BD Fc) Fc (Qe j oj Fc EF Iq XX) (fun cs b=>QV i oi cs b hi) (fun cs b=>QV j oj cs b Fc) (fun c a w h=>NP.put c a _ _ w h) hy h1
   have un: ∀ {k:Nat},(AY.setIfInBounds j true).getD k true=false -> AY.getD k true=false:=fun {k} Hx=>by
    by_cases Qd:j=k
    ·subst Qd;exact Iq
    ·rw [getD_set_ne true Qd] at Hx;exact Hx
   refine zAY (fun a' w' h3=>⟨h3.2.1,ih (AY.setIfInBounds j true) a' w' (Bj.set hj) (fun k ok hk Qc Hx EE=>Qe k ok hk Qc (un Hx) EE) (fun k Dq Qc Hx te=>hT k Dq Qc (un Hx) te) (ready_mono hr (zAh EF)) h3.1 (hT j Nv EF Iq tM w w' hS h3.2.1) ?_⟩) h2;rw [Array.setIfInBounds_comm _ _ EF];exact h3.2.2
theorem iT {id:Nat} {a:Act} {w:World} {R:Nat -> World -> World -> Prop} (hm:P.follows .mixedOrders=true) (h:G5 F n P ops Q R ops.size (Array.replicate ops.size false) a w.drew):(Code.region id ops true).wpIn F n P Q a w:=
 wpIn_region_any hm (ZG _ _ _ _ h)
theorem wf:Fh ops (Array.replicate ops.size false):=fun j oj _ hl=>by
 exfalso
 rcases zb j ops.size with h | h
 ·simp [h] at hl
 ·simp [h] at hl
def Pd (ops:Array Oper) (i:Nat):Bool:=match ops[i]? with
 | some o=>Pc o.op
 | none=>false
def RZ (ops:Array Oper) (early:Nat -> Bool) (Z:Nat -> Nat -> Prop) (j:Nat) (w w':World):Prop:=(Pd ops j=true -> w'=w)/\ (early j=true -> AP (Z j) w w')
def SX (ops:Array Oper) (early:Nat -> Bool) (i:Nat) (AY:Array Bool):Bool:=
 (Region.ready .any ops AY).contains i&&Region.free .any ops AY i&&Pd ops i&&
  ((List.range ops.size).all fun j=>AY.getD j true||j==i||Pd ops j||early j||Fj ops ops.size j i)
theorem bG (hF: ∀ f,F.fn f) (BD:Dl ops=true) (hs:Region.noSelect ops=true) {early:Nat -> Bool} {Z:Nat -> Nat -> Prop} {Zi:Nat -> Prop} {i m:Nat} {AY:Array Bool} {a:Act} {w:World} {oi:Oper} {v:Value} (hi:ops[i]? =some oi) (Bj:Fh ops AY) (CG:SX ops early i AY=true) (hZ: ∀ j,Fj ops ops.size j i=false -> ∀ b,Z j b -> Zi b)
 (hy:YieldsIf P ops (AP Zi w) oi v a) (h:G5 F n P ops Q (RZ ops early Z) m (AY.setIfInBounds i true) (a.put oi.dst v) w):G5 F n P ops Q (RZ ops early Z) (m+1) AY a w:=by
 simp only [SX,yD,yJ,yR,yX,yo] at CG;obtain ⟨⟨⟨h1,h2⟩,h3⟩,h4⟩:=CG;refine iQ hF BD hi (Region.noSelect_spec hs) (fun w=>⟨fun _=>rfl,fun _=>AP.refl _ _⟩) m AY a w Bj (Region.free_spec hi h2) (fun j hj EF Hx hw w1 w2 hT hR=>?_) (by simpa using h1) hy (AP.refl _ _) h;rcases h4 j hj with (((h | h) | h) | h) | h
 ·rw [Hx] at h;cases h
 ·exact absurd h EF
 ·rw [hR.1 h];exact hT
 ·exact hT.trans ((hR.2 h).mono fun b _ hb=>hZ j hw b hb)
 ·rw [hw] at h;cases h
theorem YY {AY:Array Bool} {i:Nat} (Bj:Fh ops AY) (h:(Region.ready .any ops AY).contains i=true):Fh ops (AY.setIfInBounds i true):=Bj.set (by simpa using h)
end
end Go.Proofs.YtgkhhfnhacibcaaGreatDoor
namespace Go.Proofs.YtgkhhfnhacibcaaGreatDoor
abbrev z6:=@List.mem_filter
end Go.Proofs.YtgkhhfnhacibcaaGreatDoor
namespace Go.Proofs.YtgkhhfnhacibcaaGreatDoor
open Go.RowKit
inductive ST where
 | fin (π live:List Nat)
 | rd (i:Nat) (t:ST)
 | ef (i:Nat) (t Gw:ST)
 | no
def RQ:ST -> List Nat
 | .ef i _ Gw=>i::RQ Gw
 | _=>[]
def Di (ops:Array Oper) (early:List Nat):Bool -> Nat -> ST -> Array Bool -> Bool
 | false,0,.fin _ _,L=>(List.range ops.size).all fun j=>L.getD j true
 | false,m+1,.rd i t,L=>SX ops (fun j=>early.contains j) i L&&Di ops early false m t (L.setIfInBounds i true)
 | b,m+1,.ef i t Gw,L=>(b||Region.ready .any ops L==RQ (.ef i .no Gw))&&!Pd ops i&&Di ops early false m t (L.setIfInBounds i true)&&Di ops early true (m+1) Gw L
 | true,_,.no,_=>true
 | _,_,_,_=>false
def G7 (p:Nat -> Bool) (h:DH):DH:=(List.range h.length).map fun i=>if p i then h.getD i none else none
def qH (xs:List Nat) (h:DH):DH:=G7 (fun i=>!xs.contains i) h
def Uv (xs:List Nat) (h:DH):Bool:=xs.all fun k=>decide (h.length<=k)||(h.getD k none).isSome
def KN (S:St) (o:Oper):Option Nat:=match o.op with
 | .store _ x _=>match Ac S.fr x with
  | .ref k _=>some k
  | .mp k _ _ _=>some k
  | _=>none
 | _=>none
def aJ (σ:List Nat) (L n:Nat):Bool:=decide σ.Nodup&&σ.all (fun k=>decide (k<n))&&(List.range L).all fun k=>decide (σ[k]? =some k)
def Oe (xs:List (Nat×Nat)) (nw:List Nat):List Nat:=xs.map (·.2)++nw
def IN (xs:List (Nat×Nat)) (nw:List Nat) (j:Nat):List Nat:=(xs.filter fun q=>q.1==j).map (·.2)++nw
def JA (ops:Array Oper) (xs:List (Nat×Nat)) (nw:List Nat) (i:Nat):List Nat:=(xs.filter fun q=>!Fj ops ops.size q.1 i).map (·.2)++nw
def fh (early:List Nat) (xs:List (Nat×Nat)) (nw:List Nat) (S S1:St) (i:Nat) (o:Oper) (ext:Bool):Bool:=
 Uv (Oe xs nw) S.h&&Uv (Oe xs nw) S1.h&&((Oe xs nw).all (fun k=>decide (k<S.h.length))||QH S.h S1.h)&&(!(early.contains i)||ext||(match KN S o with | some k=>(IN xs nw i).contains k | none=>false))
def Rz (π:List Nat) (L0:Nat):List Nat:=List.range L0++π.map (· +L0)
def KF (P:Program) (Γ:BB) (ops:Array Oper) (early:List Nat) (xs:List (Nat×Nat)) (nw:List Nat) (L0:Nat) (S':St):ST -> St -> Bt -> Option (List Prop×Bt)
 | .no,_,Aq=>some ([],Aq)
 | .fin π live,S,Aq=>if aJ (Rz π L0) L0 S.h.length then some ([FI (Rz π L0) ⟨forget live S.fr,S.h⟩=S'],Aq) else none
 | .rd i t,S,Aq=>match ops[i]? with
  | none=>none
  | some o=>if Uv (JA ops xs nw i) S.h then match PW P ops ⟨S.fr,qH (JA ops xs nw i) S.h⟩ Aq.co o with
   | none=>none
   | some (S1,vs,C0)=>match KF P Γ ops early xs nw L0 S' t ⟨S1.fr,S.h⟩ ⟨Aq.calls,C0,Aq.fz,Aq.tg⟩ with
    | none=>none
    | some (BW,CE)=>some (vs++BW,CE)
   else none
 | .ef i t Gw,S,Aq=>match ops[i]? with
  | none=>none
  | some o=>match Mx P Γ ops S Aq o with
   | none=>none
   | some (S1,vs,ext,Lu)=>if fh early xs nw S S1 i o ext then
    match KF P Γ ops early xs nw L0 S' t S1 Lu with
    | none=>none
    | some (Cb,Gh)=>match KF P Γ ops early xs nw L0 S' Gw S Gh with
     | none=>none
     | some (E5,Ja)=>some (vs++(Cb++E5),Ja)
    else none
def CI (ops:Array Oper) (early:List Nat) (t:ST):Prop:=(Di ops early false ops.size t (Array.replicate ops.size false)&&Region.noSelect ops&&Dl ops)=true
def VF (P:Program) (Γ:BB) (ops:Array Oper) (early:List Nat) (t:ST) (S:St) (Aq:Bt):Option (St×List Prop×Bt):=match Aq.tg with
 | []=>none
 | (ks,S')::rest=>match KF P Γ ops early ks (List.range' S.h.length ops.size) S.h.length S' t S ⟨Aq.calls,Aq.co,Aq.fz,rest⟩ with
  | none=>none
  | some (vs,CE)=>some (S',vs,CE)
theorem N9 {p:Nat -> Bool} {h:DH} {i:Nat} {o:DO} (hi:(G7 p h)[i]? =some (some o)):h[i]? =some (some o)/\ p i=true:=by
 unfold G7 at hi;rw [ye] at hi;cases hr:(List.range h.length)[i]? with
 | none=>rw [hr] at hi;cases hi
 | some j=>
  have hj:i<h.length/\ i=j:=by
   have:=yI.1 hr;obtain ⟨h1,h2⟩:=this;simp at h1 h2;exact ⟨h1,h2⟩
  rw [hr] at hi;obtain ⟨h1,rfl⟩:=hj;have hi:(if p i then h.getD i none else none)=some o:=yH hi;split at hi
  ·exact ⟨by rw [u8,xy h1] at hi;rw [xy h1];exact congrArg some hi,by assumption⟩
  ·cases hi
theorem jp {p:Nat -> Bool} {h:DH}:(G7 p h).length=h.length:=by simp [G7]
theorem fC {p:Nat -> Bool} {h:DH} {k:Nat} (hp:p k=true) (hk:k<h.length):(G7 p h)[k]? =h[k]? :=by
 unfold G7;rw [ye,zAj hk];simp [hp,u8,hk]
section
variable {P:Program} {Γ:BB} {N:Nat -> Prop} {S:St} {ρ:List AN} {a:Act} {w:World}
theorem Ad.sel (R:Ad P Γ N S ρ a w) (p:Nat -> Bool):Ad P Γ (fun b=>N b∨∃ k o q,p k=false/\ S.h[k]? =some (some o)/\ ρ[k]? =some q/\ q.foot b) ⟨S.fr,G7 p S.h⟩ ρ a w:=by
 have hM: ∀ b,MS (fun b=>N b∨∃ k o q,p k=false/\ S.h[k]? =some (some o)/\ ρ[k]? =some q/\ q.foot b) (G7 p S.h) ρ b -> MS N S.h ρ b:=by
  rintro b ((h | ⟨k,o,q,h1,h2,h3,h4⟩) | ⟨k,o,q,h1,h2,h3⟩)
  ·exact .inl h
  ·exact .inr ⟨k,o,q,h2,h3,h4⟩
  ·exact .inr ⟨k,o,q,(N9 h1).1,h2,h3⟩
 refine ⟨⟨by rw [jp];exact R.hr.len,fun i o hi=>?_,fun i o q b g1 g2 g3=>?_,fun i i' o1 o2 p1 p2 b Aw g1 g2 g3 g4 g5 g6=>R.hr.dis i i' o1 o2 p1 p2 b Aw (N9 g1).1 (N9 g2).1 g3 g4 g5 g6,?_,R.hr.gi⟩,R.fr.out (DZ hM ρ)⟩
 ·obtain ⟨q,hq,hr⟩:=R.hr.obj i o (N9 hi).1;exact ⟨q,hq,hr.out (DZ hM ρ) (S:=fun _=>False) (AP.refl _ _) (fun _ h=>h.elim) fun _ _ _ h=>h⟩
 ·obtain ⟨hi,rh⟩:=N9 g1;obtain ⟨c1,c2,c3⟩:=R.hr.cel i o q b hi g2 g3;refine ⟨c1,?_,c3⟩;rintro (h | ⟨k,o',q',h1,h2,h3,h4⟩)
  ·exact c2 h
  ·exact R.hr.dis i k o o' q q' b (fun e=>by subst e;rw [rh] at h1;cases h1) hi h2 g2 h3 g3 h4
 ·rintro b (h | ⟨k,o',q',h1,h2,h3,h4⟩)
  ·exact R.hr.nlt b h
  ·obtain ⟨c1,_,c,t,z,c3⟩:=R.hr.cel k o' q' b h2 h3 h4;exact ⟨(xz.1 c3).1,c1⟩
theorem Ad.unsel {p:Nat -> Bool} {fr:List DV} (R0:BY P Γ N S.h ρ w) (R:B1 (MS (fun b=>N b∨∃ k o q,p k=false/\ S.h[k]? =some (some o)/\ ρ[k]? =some q/\ q.foot b) (G7 p S.h) ρ) w ρ fr a.tmps):Ad P Γ N ⟨fr,S.h⟩ ρ a w:=by
 refine ⟨R0,R.out (DZ (fun b hb=>?_) ρ)⟩;rcases hb with h | ⟨k,o,q,h1,h2,h3⟩
 ·exact .inl (.inl h)
 ·cases hp:p k with
  | false=>exact .inl (.inr ⟨k,o,q,hp,h1,h2,h3⟩)
  | true=>
   refine .inr ⟨k,o,q,?_,h2,h3⟩;rw [fC hp (yI.1 h1).1];exact h1
def Zs (xs:List Nat) (ρ:List AN) (w:World) (b:Nat):Prop:=(∃ k q,k∈xs/\ ρ[k]? =some q/\ q.foot b)∨w.heap.size<=b
theorem qN {xs:List Nat} (R:BY P Γ N S.h ρ w) (H4:Uv xs S.h=true) {W:World} (hu:AP (Zs xs ρ w) w W):Keep (fun b=>N b∨∃ k o q,(!xs.contains k)=false/\ S.h[k]? =some (some o)/\ ρ[k]? =some q/\ q.foot b) w W:=by
 intro b o u hb hc;have AU:b<w.heap.size:=zY w ⟨b,o,none⟩ hc;refine (gA (hu.block b AU ?_)).trans hc;rintro (⟨k,q,h1,h2,h3⟩ | h)
 ·have hk:k<S.h.length:=by rw [←R.len];exact (yI.1 h2).1
  have hx:=yJ.1 H4 k h1;simp only [yX,yd] at hx;rcases hx with hx | hx
  ·omega
  ·cases hg:S.h.getD k none with
   | none=>rw [hg] at hx;cases hx
   | some ob=>exact hb (.inr ⟨k,ob,q,by simp [h1],getD_some hg,h2,h3⟩)
 ·omega
theorem OI {ρ':Operand -> Value} {o:Oper} {t:TypeId} {x y:Operand} (ho:o.op= .store t x y) {nx:Next} {w w':World} (h:(execOp ρ' o).run P w= .ok nx w'):nx= .skip:=by
 unfold execOp at h;rw [ho] at h;have h:(Instr.storeAt t (ρ' x) (ρ' y)>>=fun _=>(pure .skip:Sem Next)).run P w= .ok nx w':=h;rw [yT] at h;cases hs:(Instr.storeAt t (ρ' x) (ρ' y)).run P w with
 | ok v w1=>rw [hs] at h;simp only [Result.andThen] at h;cases h;rfl
 | halt x w1=>rw [hs] at h;simp only [Result.andThen] at h;cases h
theorem BS.store {ρ':Operand -> Value} {o:Oper} {t:TypeId} {x y:Operand} (ho:o.op= .store t x y) {w:World} {G G':Value -> World -> Prop} (h:BS P (execOp ρ' o) w G) (h':BS P (execOp ρ' o) w G'):BS P (execOp ρ' o) w (fun v W=>G v W/\ G' v W):=by
 rcases h with ⟨v,w1,h1,_⟩ | ⟨w1,h1,h2⟩ | ⟨f,ag,w1,h1,_⟩
 ·cases OI ho h1
 ·rcases h' with ⟨v,w2,g1,_⟩ | ⟨w2,g1,g2⟩ | ⟨f,ag,w2,g1,_⟩
  ·cases OI ho g1
  ·rw [h1] at g1;cases g1;exact .inr (.inl ⟨w1,h1,h2,g2⟩)
  ·cases OI ho g1
 ·cases OI ho h1
theorem jS {t:TypeId} {x d:DV} {k:Nat} {h':DH} {vc:Prop} (hx:(∃ j,x= .ref k j)∨∃ m i j,x= .mp k m i j) (h:LW P S t x d=some (h',vc)):k<S.h.length/\ ∃ h2,LW P ⟨S.fr,G7 (fun i=>i==k) S.h⟩ t x d=some (h2,vc):=by
 have key: ∀ {o:DO},S.h[k]? =some (some o) -> k<S.h.length/\ (G7 (fun i=>i==k) S.h)[k]? =some (some o):=fun {o} ho=>by
  have hk:=(yI.1 ho).1;exact ⟨hk,by rw [fC (by simp) hk];exact ho⟩
 unfold LW at h ⊢;rcases hx with ⟨j,rfl⟩ | ⟨m,i,j,rfl⟩
 ·simp only at h ⊢;split at h
  ·rename_i l hl;obtain ⟨h1,h2⟩:=key hl;refine ⟨h1,?_⟩;simp only [h2]
   repeat' (split at h)
   all_goals first | (cases h;done) | skip
   cases h;rename_i q1 q2 q3;simp only [q1,q2,q3,zS];exact ⟨_,rfl⟩
  ·cases h
 ·simp only at h ⊢;split at h
  ·rename_i A9;split at h
   ·rename_i l hl;obtain ⟨h1,h2⟩:=key hl;refine ⟨h1,?_⟩;simp only [h2,A9,zS]
    repeat' (split at h)
    all_goals first | (cases h;done) | skip
    cases h;rename_i q1;simp only [q1,zS];exact ⟨_,rfl⟩
   ·rename_i l hl;obtain ⟨h1,h2⟩:=key hl;refine ⟨h1,?_⟩;simp only [h2,A9,zS]
    repeat' (split at h)
    all_goals first | (cases h;done) | skip
    cases h;rename_i q1;simp only [q1,zS];exact ⟨_,rfl⟩
   ·rename_i m' n f hl;obtain ⟨h1,h2⟩:=key hl;refine ⟨h1,?_⟩;simp only [h2,A9,zS]
    repeat' (split at h)
    all_goals first | (cases h;done) | skip
    cases h;rename_i q1;simp only [q1,zS];exact ⟨_,rfl⟩
   ·cases h
  ·cases h
theorem VI {o:Oper} {k:Nat} (h:KN S o=some k): ∃ t x y,o.op= .store t x y/\ ((∃ j,Ac S.fr x= .ref k j)∨∃ m i j,Ac S.fr x= .mp k m i j):=by
 unfold KN at h;split at h
 ·rename_i t x y ho;refine ⟨t,x,y,ho,?_⟩;split at h
  ·rename_i j e;cases h;exact .inl ⟨j,e⟩
  ·rename_i m i j e;cases h;exact .inr ⟨m,i,j,e⟩
  ·cases h
 ·cases h
theorem xl {calls:List (DV×DH×Bool)} {o:Oper} {t:TypeId} {x y:Operand} (ho:o.op= .store t x y) {d:DV} {h':DH} {vs:List Prop} {ext:Bool} {RE:List (DV×DH×Bool)} (h:OY P Γ S calls o.op=some (d,h',vs,ext,RE)): ∃ vc,LW P S t (Ac S.fr x) (Ac S.fr y)=some (h',vc)/\ vs= [vc]:=by
 rw [ho] at h;simp only [OY] at h;split at h
 ·rename_i h1 vc hs;cases h;exact ⟨vc,hs,rfl⟩
 ·cases h
theorem xm (R:Ad P Γ N S ρ a w) {calls:List (DV×DH×Bool)} {o:Oper} {d:DV} {h':DH} {vs:List Prop} {ext:Bool} {RE:List (DV×DH×Bool)} (h:OY P Γ S calls o.op=some (d,h',vs,ext,RE)) (hv:Be vs):
 BS P (execOp a.eval o) w (fun v w'=>C1 P Γ N S.h ρ w ext d h' v w'/\ ∀ k,KN S o=some k -> AP (fun b=>∃ q,ρ[k]? =some q/\ q.foot b) w w'):=by
 cases D1:KN S o with
 | none=>
  have D:=Y4 R h hv;rcases D with ⟨v,w1,h1,h2⟩ | ⟨w1,h1,h2⟩ | ⟨f,ag,w1,h1,h2⟩
  ·exact .inl ⟨v,w1,h1,h2,fun k hk=>by cases hk⟩
  ·exact .inr (.inl ⟨w1,h1,h2,fun k hk=>by cases hk⟩)
  ·exact .inr (.inr ⟨f,ag,w1,h1,h2.mono fun e B7 ⟨v,e1,e2⟩=>⟨v,e1,e2,fun k hk=>by cases hk⟩⟩)
 | some k=>
  obtain ⟨t,x,y,ho,hx⟩:=VI D1;have D:=Y4 R h hv;obtain ⟨vc,hs,rfl⟩:=xl ho h;obtain ⟨_,h2,Jo⟩:=jS hx hs;have D2:=Z6 (Ad.sel R (fun i=>i==k)) (tx:=x) (x:=y) Jo hv.1 o ho;have D3:=BS.store ho D D2;rcases D3 with ⟨v,w1,h1,g1,g2⟩ | ⟨w1,h1,g1,g2⟩ | ⟨f,ag,w1,h1,_⟩
  ·cases OI ho h1
  ·refine .inr (.inl ⟨w1,h1,g1,fun k' Cl=>?_⟩);cases Cl;obtain ⟨ρ2,_,_,st,_⟩:=g2.ex;refine st.upd.mono fun b _ hb=>?_
   obtain ⟨i,o',q,q1,q2,q3⟩:=hb;have:=(N9 q1).2;have e:i=k:=by simpa using this
   subst e;exact ⟨q,q2,q3⟩
  ·cases OI ho h1
theorem xL {F:Fence} (hF:Dg F P) (R:Ad P Γ N S ρ a w) {ops:Array Oper} {Aq:Bt} {o:Oper} (hd: ∀ c,o.op≠.defer c) {S':St} {vs:List Prop} {ext:Bool} {CE:Bt} (h:Mx P Γ ops S Aq o=some (S',vs,ext,CE)) (hv:Be vs)
 {K:Act -> World -> Prop} {Q:Exit -> Act -> World -> Prop} (hK: ∀ ρ' a' w',Ad P Γ N S' ρ' a' w' -> Cn S.h ρ w S'.h ρ' w' -> a'.defers=a.defers -> (ext=true -> At w w') -> (∀ k,KN S o=some k -> AP (fun b=>∃ q,ρ[k]? =some q/\ q.foot b) w w') -> K a' w'):
 if Region.wanted o (yielded ops a.tmps) then o.wpIn F 0 P a w K Q else (∀ f,o.about P w a.eval=some f -> F.fn f)/\ K (a.put o.dst undef) w:=by
 have Cw: ∀ v,(a.put o.dst v).defers=a.defers:=fun v=>by cases ho:o.dst <;> simp [Act.put]
 unfold Mx at h;split at h
 ·cases h
 ·rename_i hw;cases h;rw [yK (by rw [JF R hw];exact zo)];exact ⟨fun f _=>hF.fn f,hK ρ _ _ (Hh R _ Rh) (Cn.refl _ _ _) (Cw _) (fun _=>At.refl w) fun _ _=>AP.refl _ _⟩
 ·rename_i hw;rw [xw (JF R hw)];split at h
  ·rename_i S1 Cb ux hM;cases h;refine J0 hF hd (ac R hM hv) fun v w' ⟨⟨ρ',g1,g2⟩,D1⟩=>hK ρ' _ _ g1 g2 (Cw v) (fun e=>by cases e) fun k' Cl=>?_
   obtain ⟨t0,x0,y0,MI,_⟩:=VI Cl;rcases D1 with D1 | ⟨k,i,p,t,x,y,q1,q2,q3,q4⟩
   ·exact absurd MI (D1 t0 x0 y0)
   have e:k'=k:=by
    unfold KN at Cl;rw [q1] at Cl;simp only [q2] at Cl;exact (yH Cl).symm
   subst e;exact q4.mono fun b _ hb=>⟨p,q3,hb⟩
  split at h
  ·rename_i S1 Cb hM;cases h;refine J0 hF hd (Z5 R hM hv) fun v w' ⟨⟨ρ',g1,g2⟩,D1⟩=>hK ρ' _ _ g1 g2 (Cw v) (fun e=>by cases e) fun k' Cl=>?_
   obtain ⟨t0,x0,y0,MI,_⟩:=VI Cl;rcases D1 with D1 | ⟨k,i,p,t,x,y,q1,q2,q3,q4⟩
   ·exact absurd MI (D1 t0 x0 y0)
   have e:k'=k:=by
    unfold KN at Cl;rw [q1] at Cl;simp only [q2] at Cl;exact (yH Cl).symm
   subst e;exact q4.mono fun b _ hb=>⟨p,q3,hb⟩
  split at h
  ·cases h
  ·rename_i d h1 Cb ext1 calls Xy;split at h;rename_i d' BW C0 MZ;split at h
   ·cases h
   ·rename_i S2 M7 Iz GP;cases h;obtain ⟨B5,QS⟩:=Cf.1 hv;obtain ⟨B8,Hw⟩:=Cf.1 QS;refine J0 hF hd (xm R Xy B5) fun v w' G=>?_
    obtain ⟨ρ',g1,g2⟩:=Mg R o.dst G.1 (d':=d') fun M ρ' hr=>Ug MZ B8 hr
    obtain ⟨g3,g4⟩:=UA _ GP Hw P Γ N ρ' _ _ g1;exact hK ρ' _ _ g3 (g2.trans ⟨g4,fun _ _ h=>h⟩) (Cw v) G.1.ext G.2
theorem iu {F:Fence} (hF:Dg F P) {ops:Array Oper} (BD:Dl ops=true) (hs:Region.noSelect ops=true) {early:List Nat} {xs:List (Nat×Nat)} {nw:List Nat} {L0:Nat} {S':St} {Q:Exit -> Act -> World -> Prop}:
 ∀ (t:ST) (m:Nat) (L:Array Bool) {S:St} {ρ:List AN} {a:Act} {w:World} {vs:List Prop} {Aq CE:Bt},Fh ops L -> Ad P Γ N S ρ a w -> KF P Γ ops early xs nw L0 S' t S Aq=some (vs,CE) -> Be vs ->
 (∀ ρ' a' w',Ad P Γ N S' ρ' a' w' -> BN S.h ρ w S'.h ρ' w' -> (∀ k p,k<L0 -> ρ[k]? =some p -> ρ'[k]? =some p) -> a'.defers=a.defers -> Q .normal a' w') ->
 (Di ops early false m t L=true -> G5 F 0 P ops Q (RZ ops (fun j=>early.contains j) (fun j=>Zs (IN xs nw j) ρ w)) m L a w)/\
 (Di ops early true m t L=true -> ∀ i∈RQ t,i∈Region.ready .any ops L -> ∃ m',m=m'+1/\ wpOpIn F 0 P ops (NP Q) i (fun a' w'=>RZ ops (fun j=>early.contains j) (fun j=>Zs (IN xs nw j) ρ w) i w w'/\ G5 F 0 P ops Q (RZ ops (fun j=>early.contains j) (fun j=>Zs (IN xs nw j) ρ w)) m' (L.setIfInBounds i true) a' w') a w):=by
 intro t
 induction t with
 | no=>
  intro m L S ρ a w vs Aq WG Bj R hV hv hQ;exact ⟨fun h=>by cases m <;> simp [Di] at h,fun _ i hi=>by cases hi⟩
 | fin π live=>
  intro m L S ρ a w vs Aq WG Bj R hV hv hQ;refine ⟨fun h=>?_,fun h=>by cases m <;> simp [Di] at h⟩;cases m with
  | succ m=>simp [Di] at h
  | zero=>
   simp only [Di,yJ,yR] at h;refine ⟨h,?_⟩;simp only [KF] at hV;split at hV
   ·rename_i hσ;cases hV;simp only [aJ,yD,yd,yJ,yR] at hσ;obtain ⟨ρ0,R0,jT,k0⟩:=BT.forget (L:=L0) live S.fr S.h P Γ N ρ a w R;obtain ⟨ρ',R',DL,k'⟩:=BT.compact (L:=L0) (Rz π L0) ⟨forget live S.fr,S.h⟩ hσ.1.1 (fun k hk=>hσ.1.2 k hk) (fun k hk=>hσ.2 k hk) P Γ N ρ0 a w R0;have st:=jT.trans DL;have e:FI (Rz π L0) ⟨forget live S.fr,S.h⟩=S':=hv.1;rw [e] at R' st DL;exact hQ ρ' a w R' st (fun k p hk hp=>k' k p hk (k0 k p hk hp)) rfl
   ·cases hV
 | rd i t ih=>
  intro m L S ρ a w vs Aq WG Bj R hV hv hQ;refine ⟨fun h=>?_,fun h=>by cases m <;> simp [Di] at h⟩;cases m with
  | zero=>simp [Di] at h
  | succ m=>
   simp only [Di,yD] at h;simp only [KF] at hV;split at hV
   ·cases hV
   ·rename_i o ho;split at hV
    ·rename_i H4;split at hV
     ·cases hV
     ·rename_i S1 Cb RD hp;split at hV
      ·cases hV
      ·rename_i E5 Gh h2;cases hV;obtain ⟨B5,B8⟩:=Cf.1 hv;have RK:=Ad.sel R (fun k=>!(JA ops xs nw i).contains k);obtain ⟨e1,D1⟩:=Sc RK hp B5;have Cw: ∀ v,(a.put o.dst v).defers=a.defers:=fun v=>by cases ho:o.dst <;> simp [Act.put]
       have Ns:(Region.ready .any ops L).contains i=true:=by
        have:=h.1;simp only [SX,yD] at this;exact this.1.1.1
       have back: ∀ v,B1 (MS (fun b=>N b∨∃ k o q,(!(JA ops xs nw i).contains k)=false/\ S.h[k]? =some (some o)/\ ρ[k]? =some q/\ q.foot b) S1.h ρ) w ρ S1.fr (a.put o.dst v).tmps -> Ad P Γ N ⟨S1.fr,S.h⟩ ρ (a.put o.dst v) w:=fun v hr=>by
        rw [e1] at hr;exact Ad.unsel (p:=fun k=>!(JA ops xs nw i).contains k) R.hr hr
       have hZ: ∀ j,Fj ops ops.size j i=false -> ∀ b,Zs (IN xs nw j) ρ w b -> Zs (JA ops xs nw i) ρ w b:=by
        rintro j hj b (⟨k,q,k1,k2,k3⟩ | hb)
        ·refine .inl ⟨k,q,?_,k2,k3⟩;unfold IN at k1;unfold JA;rcases yx.1 k1 with k1 | k1
         ·obtain ⟨p,p1,p2⟩:=zN.1 k1;obtain ⟨p3,p4⟩:=z6.1 p1;have:p.1=j:=by simpa using p4
          exact yx.2 (.inl (zN.2 ⟨p,z6.2 ⟨p3,by rw [this,hj];rfl⟩,p2⟩))
         ·exact yx.2 (.inr k1)
        ·exact .inr hb
       rcases D1 with ⟨hw,v,g1,g2⟩ | ⟨hw,g2⟩
       ·refine bG (Zi:=Zs (JA ops xs nw i) ρ w) hF.fn BD hs ho Bj h.1 hZ (.inl ⟨hw,fun W hu=>g1 W (qN R.hr H4 hu)⟩) ?_;exact (ih m _ (YY Bj Ns) (back v g2.fr) h2 B8 fun ρ' a' w' q1 q2 q3 q4=>hQ ρ' a' w' q1 q2 q3 (q4.trans (Cw v))).1 h.2
       ·refine bG (Zi:=Zs (JA ops xs nw i) ρ w) hF.fn BD hs (v:=undef) ho Bj h.1 hZ (.inr ⟨hw,rfl⟩) ?_;exact (ih m _ (YY Bj Ns) (back undef g2.fr) h2 B8 fun ρ' a' w' q1 q2 q3 q4=>hQ ρ' a' w' q1 q2 q3 (q4.trans (Cw undef))).1 h.2
    ·cases hV
 | ef i t Gw qr qq=>
  intro m L S ρ a w vs Aq WG Bj R hV hv hQ;simp only [KF] at hV;split at hV
  ·cases hV
  ·rename_i o ho;split at hV
   ·cases hV
   ·rename_i S1 Cb ext Lu h1;split at hV
    ·rename_i Tx;simp only [fh,yD,yX] at Tx;obtain ⟨⟨⟨H4,uR⟩,tf⟩,uD⟩:=Tx;split at hV
     ·cases hV
     rename_i E5 Gh h2;split at hV
     ·cases hV
     ·rename_i M5 Ja h3;cases hV;obtain ⟨B5,Do⟩:=Cf.1 hv;obtain ⟨B8,Hw⟩:=Cf.1 Do;have A:=qq m L Bj R h3 Hw hQ
      have sub: ∀ {j k:Nat},k∈IN xs nw j -> k∈Oe xs nw:=fun {j k} hk=>by
       unfold IN at hk;unfold Oe;rcases yx.1 hk with hk | hk
       ·obtain ⟨p,p1,p2⟩:=zN.1 hk;exact yx.2 (.inl (zN.2 ⟨p,(z6.1 p1).1,p2⟩))
       ·exact yx.2 (.inr hk)
      have one: ∀ b,Di ops early b m (.ef i t Gw) L=true -> (Region.ready .any ops L).contains i=true -> ∃ m',m=m'+1/\ Di ops early true m Gw L=true/\ wpOpIn F 0 P ops (NP Q) i (fun a' w'=>RZ ops (fun j=>early.contains j) (fun j=>Zs (IN xs nw j) ρ w) i w w'/\ G5 F 0 P ops Q (RZ ops (fun j=>early.contains j) (fun j=>Zs (IN xs nw j) ρ w)) m' (L.setIfInBounds i true) a' w') a w:=by
       intro b hb hr;cases m with
       | zero=>cases b <;> simp [Di] at hb
       | succ m=>
        have Cd:(!Pd ops i)=true/\ Di ops early false m t (L.setIfInBounds i true)=true/\ Di ops early true (m+1) Gw L=true:=by
         cases b <;> simp only [Di,yD] at hb <;> exact ⟨hb.1.1.2,hb.1.2,hb.2⟩
        obtain ⟨b1,b2,b3⟩:=Cd;refine ⟨m,rfl,b3,?_⟩;unfold wpOpIn;simp only [ho];refine xL hF R (Hr BD ho) h1 B5 fun ρ' a' w' R' st Dd Is rN=>?_
        refine ⟨⟨fun hp=>(by rw [hp] at b1;cases b1),fun he=>?_⟩,?_⟩
        ·rcases uD with (h | h) | h
         ·have he:early.contains i=true:=he;rw [he] at h;cases h
         ·exact AP.ofExt (Is h)
         ·split at h
          ·rename_i k hk;refine (rN k hk).mono fun b _ hb=>?_
           obtain ⟨q,q1,q2⟩:=hb;exact .inl ⟨k,q,by simpa using h,q1,q2⟩
          ·cases h
        ·have T:=(qr m _ (YY Bj hr) R' h2 B8 fun ρ2 a2 w2 q1 q2 q3 q4=>hQ ρ2 a2 w2 q1 (st.st.trans q2) (fun k p hk hp=>q3 k p hk (st.pl k p hp)) (q4.trans Dd)).1 b2;refine ZB (fun j w1 w2 hR=>⟨hR.1,fun he=>(hR.2 he).mono fun b eP hb=>?_⟩) _ _ _ _ T;rcases hb with ⟨k,q,k1,k2,k3⟩ | hb
         ·by_cases hk:k<ρ.length
          ·have e:=st.pl k _ (xy hk);rw [e] at k2;exact .inl ⟨k,q,k1,by rw [xy hk];exact k2,k3⟩
          ·refine .inr ?_;rw [R.hr.len] at hk;rcases tf with hx | hx
           ·have:=yJ.1 hx k (sub k1);simp only [yd] at this;omega
           ·have Cl:k<S1.h.length:=by rw [←R'.hr.len];exact (yI.1 k2).1
            have ha:=yJ.1 uR k (sub k1);simp only [yX,yd] at ha;rcases ha with ha | ha
            ·omega
            ·cases hg:S1.h.getD k none with
             | none=>rw [hg] at ha;cases ha
             | some ob=>
              rcases st.st.grow b ⟨k,ob,q,getD_some hg,k2,k3⟩ with ⟨i2,o2,p2,g1,g2,g3⟩ | h
              ·exfalso
               have tr:=(yI.1 g1).1;have Nk:=yJ.1 hx i2 (yR.2 tr);have e2:S.h.getD i2 none=some o2:=by rw [u8,g1];rfl
               rw [e2] at Nk;cases eD:S1.h.getD i2 none with
               | none=>rw [eD] at Nk;cases Nk
               | some oA=>exact R'.hr.dis i2 k oA ob p2 q b (by omega) (getD_some eD) (getD_some hg) (st.pl i2 p2 g2) k2 g3 k3
              ·exact h
         ·exact .inr (yO st.st.upd.size hb)
      refine ⟨fun h=>?_,fun h j hj hr=>?_⟩
      ·have Ns:Region.ready .any ops L=i::RQ Gw:=by
        cases m <;> simp only [Di,yD,yX,yo,RQ,yt,false_or] at h;exact h.1.1.1
       obtain ⟨m',e,ha,hw⟩:=one false h (by rw [Ns];simp);subst e;refine ⟨by rw [Ns];simp,fun j hj=>?_⟩;have GO:=hj;rw [Ns] at hj;rcases yf.1 hj with rfl | hj
       ·exact hw
       ·obtain ⟨m2,e2,QQ⟩:=A.2 ha j hj GO;cases e2;exact QQ
      ·rcases yf.1 hj with rfl | hj
       ·obtain ⟨m',e,ha,hw⟩:=one true h (by simpa using hr);exact ⟨m',e,hw⟩
       ·have ha:Di ops early true m Gw L=true:=by
         cases m <;> simp only [Di,yD] at h
         ·cases h
         ·exact h.2
        exact A.2 ha j hj hr
    ·cases hV
theorem Tr.tree {F:Fence} {B:Option Nat} {L:Nat} {Y:Ba P Γ L} {Q:QY P Γ L} (hF:Dg F P) {id:Nat} {ops:Array Oper} {early:List Nat} {t:ST} {Aq CE:Bt} {S':St} {vs:List Prop} (hm:P.follows .mixedOrders=true) (hB:CI ops early t)
 (h:VF P Γ ops early t S Aq=some (S',vs,CE)) (hv:Be vs) (hk:Q .normal S' Y):Tr P Γ F B L Y (.region id ops true) S Q:=fun N ρ a w R y m b=>by
 simp only [CI,yD] at hB;obtain ⟨⟨h1,h2⟩,h3⟩:=hB;unfold VF at h;split at h
 ·cases h
 split at h
 ·cases h
 ·rename_i hV;cases h;have hE:At w w.drew:=At.toDrew w;refine iT hm ((iu hF h3 h2 t ops.size _ wf (R.ext hE) hV hv fun ρ' a' w' R' st Xc Dd=>?_).1 h1);have DL:BN S.h ρ w S'.h ρ' w':=(BN.ext hE).trans st;exact Tr.done R y m b hk R' DL (fun k p _ hp=>Xc k p (by rw [←R.hr.len];exact (yI.1 hp).1) hp) Dd
end
end Go.Proofs.YtgkhhfnhacibcaaGreatDoor
namespace Go.Proofs.YtgkhhfnhacibcaaGreatDoor
abbrev zA4:=@Go.IntKind.wrap_i64
end Go.Proofs.YtgkhhfnhacibcaaGreatDoor
namespace Go.Proofs.YtgkhhfnhacibcaaGreatDoor
open Go.RowKit
inductive KI where
 | code (c:Code)
 | blk (id:Nat)
 | scp
 | lend (J:St -> Prop)
 | loopN (m:Nat) (b:Code)
def I4 (P:Program) (Γ:BB) (F:Fence) (B:Option Nat) (L:Nat) (b:Code) (Q:QY P Γ L):Nat -> St -> Ba P Γ L -> Prop
 | 0,_,_=>False
 | m+1,S,Y=>Tr P Γ F B L Y b S (Oi (I4 P Γ F B L b Q m) Q)
theorem I4.loop {P:Program} {Γ:BB} {F:Fence} {B:Option Nat} {L:Nat} {Y:Ba P Γ L} {b:Code} {Q:QY P Γ L} {m:Nat} {S:St} (h:I4 P Γ F B L b Q m S Y):Tr P Γ F B L Y (.loop b) S Q:=by
 refine Tr.loop (fun m S Y=>I4 P Γ F B L b Q m S Y) m h fun m S Y hm=>?_
 cases m with
 | zero=>exact hm.elim
 | succ m=>
  refine Tr.mono hm fun e S' Y' hq=>?_
  cases e with
  | normal=>exact ⟨m,Nat.lt_succ_self m,hq⟩
  | _=>exact hq
def DT (P:Program) (Γ:BB) (F:Fence) (B:Option Nat) (L:Nat) (Q:QY P Γ L):List KI -> QY P Γ L
 | [],e,S,Y=>Q e S Y
 | .code c::k,e,S,Y=>match e with
  | .normal=>Tr P Γ F B L Y c S (DT P Γ F B L Q k)
  | e=>DT P Γ F B L Q k e S Y
 | .blk id::k,e,S,Y=>match e with
  | .exit i=>if i=id then DT P Γ F B L Q k .normal S Y else DT P Γ F B L Q k (.exit i) S Y
  | e=>DT P Γ F B L Q k e S Y
 | .scp::k,e,S,Y=>match e with
  | .goto _=>False
  | e=>DT P Γ F B L Q k e S Y
 | .lend J::k,e,S,Y=>match e with
  | .normal=>J S
  | e=>DT P Γ F B L Q k e S Y
 | .loopN m b::k,e,S,Y=>match e with
  | .normal=>I4 P Γ F B L b (DT P Γ F B L Q k) m S Y
  | e=>DT P Γ F B L Q k e S Y
def Az (P:Program) (Γ:BB) (F:Fence) (B:Option Nat) (L:Nat) (Y:Ba P Γ L) (Q:QY P Γ L) (k:List KI) (S:St):Prop:=DT P Γ F B L Q k .normal S Y
def stay {P:Program} {Γ:BB} {L:Nat} (N:Ba P Γ L) (Q:Exit -> St -> Prop):QY P Γ L:=fun e S Y=>Y=N/\ Q e S
abbrev BV (P:Program) (Γ:BB) (F:Fence) (B:Option Nat) (L:Nat) (N:Ba P Γ L) (Q:Exit -> St -> Prop) (k:List KI) (S:St):Prop:=Az P Γ F B L N (stay N Q) k S
def Hn (id:Nat):List KI -> Option (List KI)
 | []=>none
 | .blk i::k=>if id=i then some k else Hn id k
 | _::k=>Hn id k
inductive Y5 where
 | no
 | ord (st:List (List Nat×Nat)) (la ta:List Nat)
 | stop
 | tre (early:List Nat) (t:ST)
abbrev Bb:=Nat -> Y5
def Y5.isStop:Y5 -> Bool
 | .stop=>true
 | _=>false
def AI (i:Nat) (s:Bb):Bb:=fun j=>if j=i then .stop else s j
def Ay (ops:Array Oper) (EB:List (List Nat×Nat)) (BZ tail:List Nat):Prop:=(VV ops EB BZ tail&&Dl ops&&tail.all fun t=>decide (t<ops.size))=true
inductive KO where
 | at (k:List KI)
 | ret
def Bx (P:Program) (Γ:BB) (A6:Bb):Nat -> List KI -> St -> Bt -> Option (KO×St×List Prop×Bt)
 | 0,_,_,_=>none
 | n+1,k,S,o=>match k with
  | []=>some (.at [],S,[],o)
  | .blk _::k=>Bx P Γ A6 n k S o
  | .scp::k=>Bx P Γ A6 n k S o
  | .lend J::k=>some (.at (.lend J::k),S,[],o)
  | .loopN m b::k=>some (.at (.loopN m b::k),S,[],o)
  | .code c::k=>match c with
   | .skip=>Bx P Γ A6 n k S o
   | .seq a b=>Bx P Γ A6 n (.code a:: .code b::k) S o
   | .block id b=>Bx P Γ A6 n (.code b:: .blk id::k) S o
   | .scope b=>Bx P Γ A6 n (.code b:: .scp::k) S o
   | .label _=>Bx P Γ A6 n k S o
   | .exit id=>match Hn id k with
    | some k'=>Bx P Γ A6 n k' S o
    | none=>some (.at (.code (.exit id)::k),S,[],o)
   | .ret=>some (.ret,S,[],o)
   | .cond x a b=>match Ac S.fr x with
    | .bool true=>Bx P Γ A6 n (.code a::k) S o
    | .bool false=>Bx P Γ A6 n (.code b::k) S o
    | _=>none
   | .region id ops dr=>if (A6 id).isStop then some (.at (.code (.region id ops dr)::k),S,[],o) else match dr with
    | false=>if Dl ops then match Ec P Γ ops ops.toList S o with
     | none=>none
     | some (S',vs,o')=>match Bx P Γ A6 n k S' o' with
      | none=>none
      | some (r,CV,BW,Po)=>some (r,CV,vs++BW,Po)
     else none
    | true=>match A6 id with
     | .no=>none
     | .stop=>none
     | .tre early t=>match VF P Γ ops early t S o with
      | none=>none
      | some (S',vs,o')=>match Bx P Γ A6 n k S' o' with
       | none=>none
       | some (r,CV,BW,Po)=>some (r,CV,CI ops early t::(vs++BW),Po)
     | .ord st la ta=>match hseq P Γ ops S.h st la ta S o with
      | none=>none
      | some (S',vs,o')=>match Bx P Γ A6 n k S' o' with
       | none=>none
       | some (r,CV,BW,Po)=>some (r,CV,Ay ops st la ta::(vs++BW),Po)
   | c=>some (.at (.code c::k),S,[],o)
section
variable {P:Program} {Γ:BB} {F:Fence} {B:Option Nat} {L:Nat} {Y:Ba P Γ L} {Q:QY P Γ L}
theorem uq (hF:Dg F P) {S:St} {id:Nat} {ops:Array Oper} {Aq CE:Bt} {S':St} {vs:List Prop} {Q:QY P Γ L} (BD:Dl ops=true) (h:Ec P Γ ops ops.toList S Aq=some (S',vs,CE)) (hv:Be vs) (hk:Q .normal S' Y):Tr P Γ F B L Y (.region id ops false) S Q:=fun N ρ a w R y m b=>
 wpIn_region_list (K4 hF BD _ (fun o ho=>by simpa using ho) R h hv fun ρ' a' w' R' st Dd=>Tr.done R y m b hk R' st.st (fun k p _ hp=>st.pl k p hp) Dd)
theorem rU (hF:Dg F P) {S:St} {id:Nat} {ops:Array Oper} {EB:List (List Nat×Nat)} {BZ tail:List Nat} {Aq CE:Bt} {S':St} {vs:List Prop} {Q:QY P Γ L} (hm:P.follows .mixedOrders=true) (hB:Ay ops EB BZ tail)
 (h:hseq P Γ ops S.h EB BZ tail S Aq=some (S',vs,CE)) (hv:Be vs) (hk:Q .normal S' Y):Tr P Γ F B L Y (.region id ops true) S Q:=fun N ρ a w R y m b=>by
 simp only [Ay,yD] at hB;obtain ⟨⟨h1,h2⟩,h3⟩:=hB;have hE:At w w.drew:=At.toDrew w;refine iS hF.fn EB BZ tail hm (by simp only [yD];exact ⟨h1,h2⟩) (XE hF h2 EB BZ tail h3 (R.ext hE) (Cn.refl _ _ _) (At.refl _) h hv fun ρ' a' w' R' st Dd=>?_);have DL:BN S.h ρ w S'.h ρ' w':=(BN.ext hE).trans st.st;exact Tr.done R y m b hk R' DL (fun k p _ hp=>st.pl k p hp) Dd
theorem Lq {id:Nat} {S:St}: ∀ {k k':List KI},Hn id k=some k' -> DT P Γ F B L Q k' .normal S Y -> DT P Γ F B L Q k (.exit id) S Y
 | [],_,h,_=>by cases h
 | .blk i::k,k',h,hq=>by
  unfold Hn at h;split at h
  ·rename_i e;cases h;subst e
   show (if id=id then _ else _)
   rw [xw rfl];exact hq
  ·rename_i e
   show (if id=i then _ else _)
   rw [yK e];exact Lq h hq
 | .code c::k,k',h,hq=>Lq (k:=k) h hq
 | .lend J::k,k',h,hq=>Lq (k:=k) h hq
 | .scp::k,k',h,hq=>Lq (k:=k) h hq
 | .loopN m b::k,k',h,hq=>Lq (k:=k) h hq
theorem NO {S:St} (h:Q .ret S Y): ∀ (k:List KI),DT P Γ F B L Q k .ret S Y
 | []=>h
 | .blk _::k=>NO h k
 | .code _::k=>NO h k
 | .lend _::k=>NO h k
 | .scp::k=>NO h k
 | .loopN _ _::k=>NO h k
def xq (P:Program) (Γ:BB) (F:Fence) (B:Option Nat) (L:Nat) (Y:Ba P Γ L) (Q:QY P Γ L):KO -> St -> Prop
 | .at k,S=>Az P Γ F B L Y Q k S
 | .ret,S=>Q .ret S Y
theorem Et (hF:Dg F P) (hm:P.follows .mixedOrders=true) {A6:Bb}: ∀ (n:Nat) (k:List KI) (S:St) (o:Bt) (r:KO) (S':St) (vs:List Prop) (o':Bt),Bx P Γ A6 n k S o=some (r,S',vs,o') -> Be vs -> xq P Γ F B L Y Q r S' -> Az P Γ F B L Y Q k S
 | 0,_,_,_,_,_,_,_,h,_,_=>by cases h
 | n+1,k,S,o,r,S',vs,o',h,hv,hk=>by
  unfold Bx at h;cases k with
  | nil=>cases h;exact hk
  | cons i k=>
   cases i with
   | blk id=>exact Et hF hm n k S o r S' vs o' h hv hk
   | scp=>exact Et hF hm n k S o r S' vs o' h hv hk
   | lend J=>cases h;exact hk
   | loopN m b=>cases h;exact hk
   | code c=>
    show Tr P Γ F B L Y c S (DT P Γ F B L Q k)
    cases c with
    | skip=>exact Tr.skip (Et hF hm n k S o r S' vs o' h hv hk)
    | seq a b=>
     refine Tr.seq (Tr.mono (Et hF hm n (.code a:: .code b::k) S o r S' vs o' h hv hk) fun e S2 Y2 hq=>?_);cases e <;> exact hq
    | block id b=>
     refine Tr.block (Tr.mono (Et hF hm n (.code b:: .blk id::k) S o r S' vs o' h hv hk) fun e S2 Y2 hq=>?_);cases e <;> exact hq
    | exit id=>
     simp only at h;split at h
     ·rename_i k' hp;exact Tr.exit (Lq hp (Et hF hm n k' S o r S' vs o' h hv hk))
     ·cases h;exact hk
    | ret=>cases h;exact Tr.ret (NO hk k)
    | cond x a b=>
     simp only at h;split at h
     ·rename_i hc;exact Tr.cond hc (fun _=>Et hF hm n (.code a::k) S o r S' vs o' h hv hk) (fun e=>by cases e)
     ·rename_i hc;exact Tr.cond hc (fun e=>by cases e) (fun _=>Et hF hm n (.code b::k) S o r S' vs o' h hv hk)
     ·cases h
    | region id ops dr=>
     simp only at h;split at h
     ·cases h;exact hk
     ·cases dr with
      | false=>
       simp only at h;split at h
       ·rename_i BD;split at h
        ·cases h
        ·rename_i S1 Cb o1 h1;split at h
         ·cases h
         ·rename_i r2 S2 E5 o2 h2;cases h;obtain ⟨B5,B8⟩:=Cf.1 hv;exact uq hF BD h1 B5 (Et hF hm n k S1 o1 _ _ _ _ h2 B8 hk)
       ·cases h
      | true=>
       simp only at h;split at h
       ·cases h
       ·cases h
       ·rename_i early t hs;split at h
        ·cases h
        ·rename_i S1 Cb o1 h1;split at h
         ·cases h
         ·rename_i r2 S2 E5 o2 h2;cases h;obtain ⟨Nm,Do⟩:=hv;obtain ⟨B5,B8⟩:=Cf.1 Do;exact Tr.tree hF hm Nm h1 B5 (Et hF hm n k S1 o1 _ _ _ _ h2 B8 hk)
       ·rename_i st la ta hs;split at h
        ·cases h
        ·rename_i S1 Cb o1 h1;split at h
         ·cases h
         ·rename_i r2 S2 E5 o2 h2;cases h;obtain ⟨Nm,Do⟩:=hv;obtain ⟨B5,B8⟩:=Cf.1 Do;exact rU hF hm Nm h1 B5 (Et hF hm n k S1 o1 _ _ _ _ h2 B8 hk)
    | loop b=>cases h;exact hk
    | rangeFunc f ps gq bd=>cases h;exact hk
    | scope b=>
     refine Tr.scope (Tr.mono (Et hF hm n (.code b:: .scp::k) S o r S' vs o' h hv hk) fun e S2 Y2 hq=>?_);cases e <;> exact hq
    | label l=>exact Tr.label (Et hF hm n k S o r S' vs o' h hv hk)
    | goto l=>cases h;exact hk
    | refuse w=>cases h;exact hk
theorem Az.weaken {k:List KI} {S S':St} (hS:BT L S S') (h:Az P Γ F B L Y Q k S') (hk: ∃ c k',k= .code c::k'):Az P Γ F B L Y Q k S:=by
 obtain ⟨c,k',rfl⟩:=hk;exact Tr.weaken hS h
def MB:List KI -> Bool
 | .code (.loop _)::_=>true
 | _=>false
def Dw (k:List KI):List KI:=match k with
 | _::rest=>rest
 | []=>[]
def K8 (id:Nat):List Nat -> Code -> List KI -> Option (List KI)
 | ms,.seq a b,k=>match K8 id ms a (.code b::k) with
  | some r=>some r
  | none=>K8 id ms b k
 | ms,.cond _ a b,k=>match K8 id ms a k with
  | some r=>some r
  | none=>K8 id ms b k
 | ms,.block i c,k=>if i=id then some (.code c:: .blk i::k) else K8 id ms c (.blk i::k)
 | ms,.scope c,k=>K8 id ms c (.scp::k)
 | m::ms,.loop b,k=>K8 id ms b (.loopN m b::k)
 | _,_,_=>none
def K9 (id:Nat):List Nat -> Code -> List KI -> Option (List KI)
 | ms,.seq a b,k=>match K9 id ms a (.code b::k) with
  | some r=>some r
  | none=>K9 id ms b k
 | ms,.cond _ a b,k=>match K9 id ms a k with
  | some r=>some r
  | none=>K9 id ms b k
 | ms,.block i c,k=>K9 id ms c (.blk i::k)
 | ms,.scope c,k=>K9 id ms c (.scp::k)
 | m::ms,.loop b,k=>K9 id ms b (.loopN m b::k)
 | _,.region i ops dr,k=>if i=id then some (.code (.region i ops dr)::k) else none
 | _,_,_=>none
def A2 (m:Nat) (k:List KI):List KI:=match k with
 | .code (.loop b)::rest=>.loopN m b::rest
 | _=>[]
def ZQ (m:Nat) (k:List KI):List KI:=match k with
 | .code (.loop b)::rest=>.code b:: .loopN m b::rest
 | _=>[]
def start (f:Func):List KI:=match f.body with
 | some c=>[.code c]
 | none=>[]
def IZ (c:Code) (id:Nat):Array Oper:=match c with
 | .region i ops _=>if i=id then ops else #[]
 | .seq a b=>let x:=IZ a id;if x.size=0 then IZ b id else x
 | .cond _ a b=>let x:=IZ a id;if x.size=0 then IZ b id else x
 | .block _ c=>IZ c id
 | .loop c=>IZ c id
 | .scope c=>IZ c id
 | .rangeFunc _ _ a b=>let x:=IZ a id;if x.size=0 then IZ b id else x
 | _=>#[]
def BC (f:Func) (id:Nat):Array Oper:=match f.body with
 | some c=>IZ c id
 | none=>#[]
theorem BV.enter {k:List KI} {S:St} (m:Nat) (hk:MB k=true) (h:Az P Γ F B L Y Q (A2 m k) S):Az P Γ F B L Y Q k S:=by
 unfold MB at hk;split at hk
 ·exact I4.loop h
 ·cases hk
theorem BV.round {k:List KI} {S:St} {n m:Nat} (hm:n+1<=m) (hk:MB k=true) (h: ∀ m,n<=m -> Az P Γ F B L Y Q (ZQ m k) S):Az P Γ F B L Y Q (A2 m k) S:=by
 cases m with
 | zero=>omega
 | succ m=>
  have h:=h m (Nat.le_of_succ_le_succ hm);unfold MB at hk;split at hk
  ·refine Tr.mono h fun e S' Y' hq=>?_
   cases e <;> exact hq
  ·cases hk
def AM (n:Nat) (l:List (Nat×DV)):List DV:=(List.range n).map fun i=>match l.find? (fun x=>x.1==i) with
 | some x=>x.2
 | none=>.any
theorem Fg.le {fn:Func} {d:DV} {h':DH} {e:Exit} {S S':St} (hS:BT L S S') (h:Fg P fn L d h' e S'):Fg P fn L d h' e S:=by
 obtain ⟨he,CV,h1,h2⟩:=h;exact ⟨he,CV,hS.trans h1,h2⟩
theorem ES.of_trk {f:Nat} {fn:Func} {ds:List DV} {h:DH} {d:DV} {h':DH} {ext:Bool} (hf:P.funcs[f]? =some fn) (hb:fn.body.isSome=true) (Jq:(fn.name== "runtime.NumGoroutine")=false) (QX:Pu h') (Is:ext=true -> h= [])
 (H: ∀ (B:Nat) (N:Ba P Γ h.length),BV P Γ Fence.wide (some B) h.length N (Fg P fn h.length d h') (start fn) ⟨ds++List.replicate (fn.ntmps-ds.length) .any,h⟩):ES P Γ f ds h d h' ext:=by
 cases hc:fn.body with
 | none=>rw [hc] at hb;cases hb
 | some c=>
  refine ES.of_tr hf hc (by simpa using Jq) QX (fun B N=>?_) Is;have:=H B N;unfold start at this;rw [hc] at this;refine Tr.mono this fun e S Y hq=>?_
  cases e <;> exact hq
def Gj:DV -> Bool
 | .mse .. =>false
 | .mri .. =>false
 | .ref .. =>false
 | .msl .. =>false
 | .mp .. =>false
 | .it _=>false
 | .agg m f=>(List.range m).all fun j=>Gj (f j)
 | .tup m f=>(List.range m).all fun j=>Gj (f j)
 | .fn _ m f=>(List.range m).all fun j=>Gj (f j)
 | _=>true
theorem NW: ∀ {d:DV},Gj d=true -> HZ d:=by
 intro d
 induction d with
 | any=>exact fun _ _ _ _ _ _=>trivial
 | nils=>exact fun _ _ _ _ _ h=>h
 | int k n=>exact fun _ _ _ _ _ h=>h
 | bool b=>exact fun _ _ _ _ _ h=>h
 | str s=>exact fun _ _ _ _ _ h=>h
 | ints l=>exact fun _ _ _ _ _ h=>h
 | bools l=>exact fun _ _ _ _ _ h=>h
 | sl m n f _=>exact fun _ _ _ _ _ h=>h
 | fp m f _=>exact fun _ _ _ _ _ h=>h
 | agg m f ih=>exact fun hb=>HZ.agg fun j hj=>ih j (yJ.1 hb j (yR.2 hj))
 | tup m f ih=>exact fun hb=>HZ.tup fun j hj=>ih j (yJ.1 hb j (yR.2 hj))
 | ref k j=>exact fun hb=>by cases hb
 | msl k m o n=>exact fun hb=>by cases hb
 | mp k m i j=>exact fun hb=>by cases hb
 | fn g m c ih=>exact fun hb M w ρ v ⟨cs,e,hs,hc⟩=>⟨cs,e,hs,fun j hj=>let ⟨u,h1,h2⟩:=hc j hj;⟨u,h1,ih j (yJ.1 hb j (yR.2 hj)) M w ρ u h2⟩⟩
 | it k=>exact fun hb=>by cases hb
 | yl l=>exact fun _ _ _ _ _ h=>h
 | cst u=>exact fun _ _ _ _ _ h=>h
 | mse k m o n=>exact fun hb=>by cases hb
 | mri k i=>exact fun hb=>by cases hb
theorem ES.frameB {f:Nat} {ds:List DV} {d:DV} (h0:ES P Γ f ds [] d [] true) (h:DH) (FH:ds.all Gj=true):ES P Γ f ds h d h true:=h0.frame (fun x hx=>NW (yJ.1 FH x hx)) h
def R9:DV -> Bool
 | .int .. =>true
 | .bool _=>true
 | .tup m f=>(List.range m).all fun j=>match f j with
  | .int .. =>true
  | .bool _=>true
  | _=>false
 | _=>false
theorem jy {d:DV} (h:R9 d=true):GX d:=by
 unfold R9 at h;split at h
 ·exact GX.int _ _
 ·exact GX.bool _
 ·rename_i m f;refine GX.tup fun j hj=>?_
  have:=yJ.1 h j (yR.2 hj);split at this
  ·rename_i e;rw [e];exact GX.int _ _
  ·rename_i e;rw [e];exact GX.bool _
  ·cases this
 ·cases h
def LJ (h:DH):List DV -> List DV -> Prop
 | [],[]=>True
 | d::ds,d0::Df=>Ab h d d0/\ LJ h ds Df
 | _,_=>False
theorem OW {h:DH}: ∀ {ds Df:List DV},LJ h ds Df -> Df.length=ds.length/\ ∀ i,i<ds.length -> Ab h (ds.getD i .any) (Df.getD i .any)
 | [],[],_=>⟨rfl,fun i hi=>absurd hi (yN i)⟩
 | d::ds,d0::Df,⟨h1,h2⟩=>by
  obtain ⟨e,g⟩:=OW h2;refine ⟨by simp [e],fun i hi=>?_⟩;cases i with
  | zero=>exact h1
  | succ i=>exact g i (by simpa using hi)
 | [],_::_,h=>h.elim
 | _::_,[],h=>h.elim
theorem Ab.plain {h:DH} {d:DV} (hn:Gj d=true):Ab h d d:=Ab.nref (NW hn)
theorem ES.snapB {f:Nat} {ds Df:List DV} {d:DV} (h0:ES P Γ f Df [] d [] true) (h:DH) (hs:LJ h ds Df) (hd:R9 d=true):ES P Γ f ds h d h true:=ES.snap h0 h (OW hs).1 (OW hs).2 (jy hd)
theorem AT.of_eq {d d':DV} (h:d=d'):AT d d':=by rw [h];exact AT.refl _
theorem QJ {M:Nat -> Prop} {w:World} {ρ:List AN} {v:Value} {l:List Int} (h:AO M w (.ints l) ρ v):l.length<=LB:=let ⟨_,_,_,_,h,_⟩:=h;h
theorem iO {x c:Int} (h1:x=c) (h2: -9223372036854775808<=c) (h3:c<=9223372036854775807):IntKind.i64.wrap x=c:=by
 subst h1;rw [zA4];omega
end
end Go.Proofs.YtgkhhfnhacibcaaGreatDoor
namespace Go.Proofs.YtgkhhfnhacibcaaGreatDoor
open Go.RowKit
def LM (w:World):Prop:=TabAt 1 Lib.deBruijn64tab w
def GG:BB where
 ng:=2
 gi:=fun w=>LM w/\ 2<=w.heap.size
 st:=fun w w' h hu=>⟨fun j hj=>hu.cell (by show ¬ (2<=1);omega) (h.1 j hj),yO h.2 hu.size⟩
 lo:=fun w h=>h.2
end Go.Proofs.YtgkhhfnhacibcaaGreatDoor
namespace Go.Proofs.YtgkhhfnhacibcaaGreatDoor
abbrev zA6:=@List.all_cons
end Go.Proofs.YtgkhhfnhacibcaaGreatDoor
namespace Go.Proofs.YtgkhhfnhacibcaaGreatDoor
open Go.RowKit
theorem Cx {α:Type} {c:Prop} [Decidable c] {a:Option α} {r:α} (h:(if c then a else none)=some r):c/\ a=some r:=by
 split at h
 ·exact ⟨by assumption,h⟩
 ·cases h
theorem Yf {α β:Type} {o:Option β} {f:β -> Option α} {r:α} (h:o.bind f=some r): ∃ v,o=some v/\ f v=some r:=by
 cases o with
 | none=>cases h
 | some v=>exact ⟨v,rfl,h⟩
theorem E1 {α:Type} {b:Bool} {x y:Option α} {r:α} (h:(bif b then x else y)=some r):(b=true/\ x=some r)∨(b=false/\ y=some r):=by
 cases b
 ·exact .inr ⟨rfl,h⟩
 ·exact .inl ⟨rfl,h⟩
def nI:Int -> Bool
 | .ofNat n=>Nat.ble n 9223372036854775807
 | .negSucc n=>Nat.ble n 9223372036854775807
def AH (x:Int):Prop:=nI x=true
instance (x:Int):Decidable (AH x):=by unfold AH;infer_instance
theorem Ax {x:Int}:AH x↔-9223372036854775808<=x/\ x<=9223372036854775807:=by
 unfold AH;cases x with
 | ofNat n=>
  show Nat.ble n 9223372036854775807=true↔_
  rw [Nat.ble_eq];simp only [Int.ofNat_eq_natCast];omega
 | negSucc n=>
  show Nat.ble n 9223372036854775807=true↔_
  rw [Nat.ble_eq];omega
theorem iP {x:Int} (h:AH x):AT (.int .i64 (IntKind.i64.wrap x)) (.int .i64 x):=AT.int (iO rfl (Ax.1 h).1 (Ax.1 h).2)
def comp (live σ:List Nat) (S:St):St:=FI σ ⟨forget live S.fr,S.h⟩
def JK (σ:List Nat) (L n:Nat):Bool:=decide σ.Nodup&&σ.all (fun k=>decide (k<n))&&(List.range L).all fun k=>decide (σ[k]? =some k)
theorem BT.comp {L:Nat} (live σ:List Nat) (S:St) (h:JK σ L S.h.length=true):BT L S (comp live σ S):=by
 simp only [JK,yD,yd,yJ,yR] at h;exact (BT.forget live S.fr S.h).trans (BT.compact σ _ h.1.1 (fun k hk=>h.1.2 k hk) (fun k hk=>h.2 k hk))
def Pi (live σ:List Nat) (L:Nat) (r:KO×St×List Prop×Bt):KO×List DV×DH×List Prop×List (DV×DH×Bool)×List (Nat×DV)×Bool:=(r.1,(Proofs.YtgkhhfnhacibcaaGreatDoor.comp live σ r.2.1).fr,(Proofs.YtgkhhfnhacibcaaGreatDoor.comp live σ r.2.1).h,r.2.2.1,r.2.2.2.calls,r.2.2.2.co,JK σ L r.2.1.h.length)
section
variable {P:Program} {Γ:BB} {F:Fence} {B:Option Nat} {L:Nat} {Y N:Ba P Γ L} {Q:QY P Γ L}
theorem nv {A6:Bb} {n:Nat} {k:List KI} {S:St} {o:Bt} {live σ:List Nat} {r:KO} {fr:List DV} {h':DH} {vs:List Prop} (h:(Bx P Γ A6 n k S o).map (Pi live σ L)=some (r,fr,h',vs,[],[],true)):
 ∃ S' o',Bx P Γ A6 n k S o=some (r,S',vs,o')/\ BT L S' ⟨fr,h'⟩:=by
 cases hr:Bx P Γ A6 n k S o with
 | none=>rw [hr] at h;cases h
 | some r=>
  obtain ⟨r1,S1,Cb,⟨c1,o1,z1,g1⟩⟩:=r;rw [hr] at h;simp only [yj,Pi,zM,zZ] at h;obtain ⟨rfl,rfl,rfl,rfl,rfl,rfl,hs⟩:=h;exact ⟨S1,_,rfl,BT.comp live σ S1 hs⟩
def Hs:List KI -> Bool
 | .code _::_=>true
 | .loopN _ _::_=>true
 | _=>false
theorem I4.weaken {b:Code} {m:Nat} {S S':St} (hS:BT L S S') (h:I4 P Γ F B L b Q m S' Y):I4 P Γ F B L b Q m S Y:=by
 cases m with
 | zero=>exact h.elim
 | succ m=>exact Tr.weaken hS h
theorem BV.le {k:List KI} {S S':St} (hS:BT L S S') (hc:Hs k=true) (h:Az P Γ F B L Y Q k S'):Az P Γ F B L Y Q k S:=by
 unfold Hs at hc;split at hc
 ·exact Az.weaken hS h ⟨_,_,rfl⟩
 ·exact I4.weaken hS h
 ·cases hc
theorem BT.frzE {S:St} (k:Nat) (S':St) (vs:List Prop) (h:Qn k S=some (S',vs)) (hv:Be vs):BT L S S':=fun P Γ N ρ a w R=>
 ⟨ρ,(DU.frzE k S' vs h hv P Γ N ρ a w R).1,(DU.frzE k S' vs h hv P Γ N ρ a w R).2,D9.refl _ _⟩
theorem BT.compE {S:St} (σ:List Nat) (h:JK σ L S.h.length=true):BT L S (FI σ S):=by
 simp only [JK,yD,yd,yJ,yR] at h;exact BT.compact σ _ h.1.1 (fun k hk=>h.1.2 k hk) (fun k hk=>h.2 k hk)
def WS:Option DO -> Bool
 | some (.iter _)=>false
 | _=>true
theorem cF {h:DH} (hb:h.all WS=true):Pu h:=fun k encs hk=>by
 have:=yJ.1 hb _ (zF hk);cases this
theorem Ab.refL {h:DH} {k:Nat} {l l0:List DV} (hk:h[k]? =some (some (.cells l))) (hs:LJ h l l0):Ab h (.ref k 0) (.fp l.length (fun j=>l0.getD j .any)):=
 Ab.ref hk (yS _) fun j hj=>(OW hs).2 j hj
theorem Ab.fnL {h:DH} {g:Nat} {l l0:List DV} (hs:LJ h l l0):Ab h (.fn g l.length (fun j=>l.getD j .any)) (.fn g l.length (fun j=>l0.getD j .any)):=by
 rintro P Γ N ρ w v H ⟨lb,e,hl,hc⟩;exact ⟨lb,e,hl,fun j hj=>let ⟨u,h1,h2⟩:=hc j hj;⟨u,h1,(OW hs).2 j hj P Γ N ρ w u H h2⟩⟩
theorem AT.ixI (l:List Int) {n:Int} {m:Nat} (hm:m=l.length) (h:(0:Int)<=n/\ n<((m:Nat):Int)):AT ((l.map (DV.int .i64)).getD n.toNat .any) (.int .i64 (l.getD n.toNat 0)):=by
 subst hm;have hl:n.toNat<l.length:=by omega
 have:(l.map (DV.int .i64)).getD n.toNat .any= .int .i64 (l.getD n.toNat 0):=by simp [hl]
 rw [this];exact AT.refl _
theorem AT.mslN {k m o n n':Nat} (h:n=n'):AT (.msl k m o n) (.msl k m o n'):=by rw [h];exact AT.refl _
def mM:DO -> Bool
 | .ints _=>true
 | .bools _=>true
 | _=>false
theorem ES.snapNew {f:Nat} {ds Df:List DV} {m n:Nat} {o:DO} (h0:ES P Γ f Df [] (.msl 0 m 0 n) [some o] true) (h:DH) (hs:LJ h ds Df) (ho:mM o=true):ES P Γ f ds h (.msl h.length m 0 n) (h++[some o]) true:=by
 obtain ⟨hl,hs⟩:=OW hs;refine ⟨h0.1,fun N ρ w args HR Ce=>?_⟩;refine (h0.2 (fun _=>False) [] w args (Nr (fun b hb=>hb.elim) HR.gi) ⟨by rw [hl];exact Ce.1,fun i hi=>?_⟩).mono ?_
 ·rw [hl] at hi;exact AO.out _ (DZ (fun b hb=>M3.1 hb) []) (hs i hi P Γ N ρ w _ HR (Ce.2 i hi))
 ·rintro e w' ⟨v,rfl,⟨⟨ρ',g1,g2,g3,g4⟩,g5⟩⟩;have hE:=g5 rfl;obtain ⟨p,hp,Cv⟩:=g1.obj 0 o rfl;have hf: ∀ b,p.foot b -> w.heap.size<=b:=fun b hb=>(g3.grow b ⟨0,o,p,rfl,hp,hb⟩).resolve_left fun ⟨k,o',p',q1,_⟩=>by simp at q1
  obtain ⟨p',cap,BJ,e1,e2,e3,e4⟩:=g2;have ep:p'=p:=yH (BJ.symm.trans hp);subst ep;refine ⟨v,rfl,⟨⟨ρ++[p'],HR.snoc hE (fun b hb=>⟨hf b hb,(g1.cel 0 o p' b rfl hp hb).2.2⟩) ?_,⟨p',cap,by rw [←HR.len];simp,e1,e2,e3,e4⟩,BN.snoc HR hE hf,fun _ _ h=>D5 h⟩,g5⟩⟩;cases o with
  | ints l=>exact Ai.out Cv rfl fun j u _ hu=>hu
  | bools l=>exact Ai.out Cv rfl fun j u _ hu=>hu
  | cells l=>cases ho
  | arr m n f=>cases ho
  | iter encs=>cases ho
  | mo x=>cases ho
theorem Yz {h:DH}: ∀ {ds:List DV},ds.all Gj=true -> LJ h ds ds
 | [],_=>trivial
 | d::ds,hd=>by
  simp only [zA6,yD] at hd;exact ⟨Ab.plain hd.1,Yz hd.2⟩
theorem AT.aggL {m:Nat} {l l':List DV} (hm:m=l.length) (h:LL l l'):AT (.agg m (fun j=>l.getD j .any)) (.agg m (fun j=>l'.getD j .any)):=by
 subst hm;rintro M w ρ v ⟨cs,e,hs,hc⟩;exact ⟨cs,e,hs,fun j hj=>let ⟨u,h1,h2⟩:=hc j hj;⟨u,h1,(RR h).2 j hj M w ρ u h2⟩⟩
theorem AT.tupL {m:Nat} {l l':List DV} (hm:m=l.length) (h:LL l l'):AT (.tup m (fun j=>l.getD j .any)) (.tup m (fun j=>l'.getD j .any)):=by
 subst hm;rintro M w ρ v ⟨cs,e,hs,hc⟩;exact ⟨cs,e,hs,fun j hj=>let ⟨u,h1,h2⟩:=hc j hj;⟨u,h1,(RR h).2 j hj M w ρ u h2⟩⟩
theorem Ab.dle {h:DH} {d d0:DV} (hn:Gj d=true) (hd:AT d d0):Ab h d d0:=fun P Γ N ρ w v H hr=>hd _ _ _ _ ((Ab.nref (NW hn)) P Γ N ρ w v H hr)
theorem ES.argsLe {f:Nat} {ds Df:List DV} {h h':DH} {d:DV} {ext:Bool} (h0:ES P Γ f Df h d h' ext) (hd:LL ds Df):ES P Γ f ds h d h' ext:=by
 obtain ⟨hl,hd⟩:=RR hd;exact ⟨h0.1,fun N ρ w args HR Ce=>h0.2 N ρ w args HR ⟨by rw [←hl];exact Ce.1,fun i hi=>hd i (by omega) _ _ _ _ (Ce.2 i (by omega))⟩⟩
theorem AT.mse_msl {k m o n n':Nat} (h:0<n) (e:n=n'):AT (.mse k m o n) (.msl k m o n'):=by
 subst e;rintro M w ρ v ⟨p,a,cap,hp,rfl,h1,h2,h3⟩;obtain ⟨rfl,h4⟩:=h3 (by omega);exact ⟨p,cap,hp,rfl,h1,h2,h4⟩
theorem AT.mse_nil {k m o n:Nat} (h:n=0):AT (.mse k m o n) (.ints []):=by
 subst h;rintro M w ρ v ⟨p,a,cap,hp,rfl,h1,h2,h3⟩;exact ⟨a,cap,rfl,zU _,zU _,fun j hj=>absurd hj (yN j)⟩
theorem nR {n:Nat} (h:(n==0)=false):0<n:=by
 have:n≠0:=by simpa using h
 omega
def KY (k off k':Nat):DV -> DV
 | .msl k1 m o n=>if k1=k/\ m=1/\ o=off then .msl k' 1 0 n else .msl k1 m o n
 | d=>d
def am (k off:Nat) (S:St):Option (St×List Prop):=match S.h.getD k none with
 | some (.ints l)=>some (⟨S.fr.map (KY k off S.h.length),S.h.set k none++[some (.ints (l.drop off))]⟩,[off<=l.length])
 | _=>none
theorem BT.rootE {S:St} (k off:Nat) (S':St) (vs:List Prop) (h:am k off S=some (S',vs)) (hv:Be vs):BT L S S':=fun P Γ N ρ a w R=>by
 unfold am at h;split at h
 ·rename_i l hl;cases h;have hv:=hv.1;have hk:=getD_some hl;obtain ⟨p,hp,hr⟩:=R.hr.obj k _ hk;have hr:Ai w p l.length _:=hr;obtain ⟨hf,cs,t,c1,c2,c3,c4⟩:=hr
  let p':AN:={ p with off:=p.off+off }
  obtain ⟨g1,g2⟩:=R.hr.regrow (o':=.ints (l.drop off)) (p':=p') hk hp (AP.refl _ _) (fun b hb=>⟨.inl hb,(R.hr.cel k _ p b hk hp hb).2.2⟩) (by
   refine ⟨hf,cs,t,c1,?_,c3,fun j hj=>?_⟩
   ·simp only [zA3,p'];omega
   ·rw [zA3] at hj;obtain ⟨u,q1,q2⟩:=c4 (off+j) (by omega);refine ⟨u,by rw [←q1];simp only [p',yu],?_⟩;rw [q2];simp [u8,zAK])
  have O:Bc (MS N S.h ρ) w ρ (MS N (S.h.set k none++[some (.ints (l.drop off))]) (ρ++[p'])) w (ρ++[p']):=⟨fun _ _ _ _=>rfl,fun b hb=>hb.elim (fun h=>.inl (.inl h)) fun h=>(g2.grow b h).imp .inr id,fun _ _ h=>D5 h⟩;refine ⟨ρ++[p'],⟨g1,by simp [R.fr.1],fun i hi=>?_⟩,g2,fun _ _ _ h=>D5 h⟩;have BM:i<S.fr.length:=by simpa using hi
  have e:(S.fr.map (KY k off S.h.length)).getD i .any=KY k off S.h.length (S.fr.getD i .any):=by simp [BM]
  show AO _ w ((S.fr.map (KY k off S.h.length)).getD i .any) _ _
  rw [e];have r0:=R.fr.2 i BM;cases hd:S.fr.getD i .any with
  | msl k1 m o n=>
   rw [hd] at r0
   by_cases hc:k1=k/\ m=1/\ o=off
   ·have e2:KY k off S.h.length (.msl k1 m o n)= .msl S.h.length 1 0 n:=by simp only [KY,xw hc]
    rw [e2];obtain ⟨h1,h2,h3⟩:=hc;rw [h1,h2,h3] at r0;obtain ⟨q,cap,hq,hu,u1,u2,u3⟩:=r0;have eq:q=p:=yH (hq.symm.trans hp);subst eq;exact ⟨p',cap,by rw [←R.hr.len];simp,by rw [hu];simp [p'],u1,u2,by simp only [p'];omega⟩
   ·have e2:KY k off S.h.length (.msl k1 m o n)= .msl k1 m o n:=by simp only [KY,yK hc]
    rw [e2];exact AO.out _ O r0
  | _=>rw [hd] at r0;exact AO.out _ O r0
 ·cases h
end
end Go.Proofs.YtgkhhfnhacibcaaGreatDoor
namespace Go.Proofs.YtgkhhfnhacibcaaGreatDoor
abbrev zX:=@Nat.le_of_ble_eq_true
end Go.Proofs.YtgkhhfnhacibcaaGreatDoor
namespace Go.Proofs.YtgkhhfnhacibcaaGreatDoor
open Go.RowKit
def El (σ:List Nat) (b k:Nat):Nat:=if k<σ.length then σ.getD k 0 else b+(k-σ.length)
def up (σ:List Nat) (b:Nat):DV -> DV
 | .ref k j=>.ref (El σ b k) j
 | .msl k m o n=>.msl (El σ b k) m o n
 | .mse k m o n=>.mse (El σ b k) m o n
 | .mri k i=>.mri (El σ b k) i
 | .mp k m i j=>.mp (El σ b k) m i j
 | .it k=>.it (El σ b k)
 | .agg m f=>.agg m (GD m fun j=>up σ b (f j))
 | .tup m f=>.tup m (GD m fun j=>up σ b (f j))
 | .fn g m c=>.fn g m (GD m fun j=>up σ b (c j))
 | d=>d
def EA (σ:List Nat) (b:Nat):Option DO -> Option DO
 | some (.cells l)=>some (.cells (l.map (up σ b)))
 | o=>o
def Ee (H:DH) (σ:List Nat) (h':DH):DH:=((List.range H.length).map fun k=>match DY σ k with
 | some i=>EA σ H.length (h'.getD i none)
 | none=>H.getD k none)++(h'.drop σ.length).map (EA σ H.length)
theorem Vp {σ:List Nat} (hn:σ.Nodup) {i k:Nat} (h:σ[i]? =some k):DY σ k=some i:=by
 induction σ generalizing i with
 | nil=>simp at h
 | cons x σ ih=>
  unfold DY;cases i with
  | zero=>
   have:x=k:=by simpa using h
   rw [xw this]
  | succ i=>
   have h':σ[i]? =some k:=by simpa using h
   have Aw:x≠k:=by
    rintro rfl;exact (zBB.1 hn).1 (zF h')
   rw [yK Aw,ih (zBB.1 hn).2 h'];rfl
theorem VC {σ:List Nat} {b:Nat} {x:Option DO} {o:DO} (h:EA σ b x=some o): ∃ o0,x=some o0:=by
 cases x with
 | none=>cases h
 | some o0=>exact ⟨o0,rfl⟩
section
variable {P:Program} {Γ:BB}
theorem ZM {M M':Nat -> Prop} {w:World} {σ:List Nat} {b:Nat} {ρ ρ':List AN} (hM: ∀ b,M' b -> M b) (hρ: ∀ (k:Nat) (p:AN),ρ[k]? =some p -> ρ'[El σ b k]? =some p): ∀ (d:DV) {v:Value},AO M w d ρ v -> AO M' w (up σ b d) ρ' v:=by
 have low: ∀ (d:DV) {v:Value},AO M w d [] v -> AO M' w d [] v:=fun d v h=>h.out d (DZ hM [])
 intro d
 induction d with
 | any=>intro v _;trivial
 | nils=>intro v h;exact h
 | int k n=>intro v h;exact h
 | bool b=>intro v h;exact h
 | str s=>intro v h;exact h
 | ints l=>intro v h;exact low (.ints l) h
 | bools l=>intro v h;exact low (.bools l) h
 | sl m n f _=>intro v h;exact low (.sl m n f) h
 | fp m f _=>intro v h;exact low (.fp m f) h
 | agg m f ih=>
  rintro v ⟨cs,e,hs,h⟩;exact ⟨cs,e,hs,fun j hj=>let ⟨u,h1,h2⟩:=h j hj;⟨u,h1,KJ hj (ih j h2)⟩⟩
 | tup m f ih=>
  rintro v ⟨cs,e,hs,h⟩;exact ⟨cs,e,hs,fun j hj=>let ⟨u,h1,h2⟩:=h j hj;⟨u,h1,KJ hj (ih j h2)⟩⟩
 | fn g m c ih=>
  rintro v ⟨cs,e,hs,h⟩;exact ⟨cs,e,hs,fun j hj=>let ⟨u,h1,h2⟩:=h j hj;⟨u,h1,KJ hj (ih j h2)⟩⟩
 | ref k j=>rintro v ⟨p,hp,r⟩;exact ⟨p,hρ k p hp,r⟩
 | msl k m o n=>rintro v ⟨p,cap,hp,r⟩;exact ⟨p,cap,hρ k p hp,r⟩
 | mp k m i j=>rintro v ⟨p,hp,r⟩;exact ⟨p,hρ k p hp,r⟩
 | it k=>rintro v ⟨p,hp,r⟩;exact ⟨p,hρ k p hp,r⟩
 | cst u=>intro v h;exact h
 | yl l=>intro v h;exact h
 | mse k m o n=>rintro v ⟨p,a,cap,hp,r⟩;exact ⟨p,a,cap,hρ k p hp,r⟩
 | mri k i=>rintro v ⟨p,vs,hp,r⟩;exact ⟨p,vs,hρ k p hp,r⟩
theorem fk {M M':Nat -> Prop} {w:World} {σ:List Nat} {b:Nat} {ρ ρ':List AN} (hM: ∀ b,M' b -> M b) (hρ: ∀ (k:Nat) (p:AN),ρ[El σ b k]? =some p -> ρ'[k]? =some p): ∀ (d:DV) {v:Value},AO M w (up σ b d) ρ v -> AO M' w d ρ' v:=by
 have low: ∀ (d:DV) {v:Value},AO M w d [] v -> AO M' w d [] v:=fun d v h=>h.out d (DZ hM [])
 have VD: ∀ {m j:Nat} {f:Nat -> DV} {u:Value},j<m -> AO M w (GD m f j) ρ u -> AO M w (f j) ρ u:=fun hj h=>by rw [Ro hj] at h;exact h
 intro d
 induction d with
 | any=>intro v _;trivial
 | nils=>intro v h;exact h
 | int k n=>intro v h;exact h
 | bool b=>intro v h;exact h
 | str s=>intro v h;exact h
 | ints l=>intro v h;exact low (.ints l) h
 | bools l=>intro v h;exact low (.bools l) h
 | sl m n f _=>intro v h;exact low (.sl m n f) h
 | fp m f _=>intro v h;exact low (.fp m f) h
 | agg m f ih=>
  rintro v ⟨cs,e,hs,h⟩;exact ⟨cs,e,hs,fun j hj=>let ⟨u,h1,h2⟩:=h j hj;⟨u,h1,ih j (VD hj h2)⟩⟩
 | tup m f ih=>
  rintro v ⟨cs,e,hs,h⟩;exact ⟨cs,e,hs,fun j hj=>let ⟨u,h1,h2⟩:=h j hj;⟨u,h1,ih j (VD hj h2)⟩⟩
 | fn g m c ih=>
  rintro v ⟨cs,e,hs,h⟩;exact ⟨cs,e,hs,fun j hj=>let ⟨u,h1,h2⟩:=h j hj;⟨u,h1,ih j (VD hj h2)⟩⟩
 | ref k j=>rintro v ⟨p,hp,r⟩;exact ⟨p,hρ k p hp,r⟩
 | msl k m o n=>rintro v ⟨p,cap,hp,r⟩;exact ⟨p,cap,hρ k p hp,r⟩
 | mp k m i j=>rintro v ⟨p,hp,r⟩;exact ⟨p,hρ k p hp,r⟩
 | it k=>rintro v ⟨p,hp,r⟩;exact ⟨p,hρ k p hp,r⟩
 | cst u=>intro v h;exact h
 | yl l=>intro v h;exact h
 | mse k m o n=>rintro v ⟨p,a,cap,hp,r⟩;exact ⟨p,a,cap,hρ k p hp,r⟩
 | mri k i=>rintro v ⟨p,vs,hp,r⟩;exact ⟨p,vs,hρ k p hp,r⟩
theorem ig {M M':Nat -> Prop} {w:World} {σ:List Nat} {b:Nat} {ρ ρ':List AN} {p:AN} (hM: ∀ b,M' b -> M b) (hρ: ∀ (k:Nat) (p:AN),ρ[k]? =some p -> ρ'[El σ b k]? =some p) {o o':DO} (ho:EA σ b (some o)=some o') (h:DW P M w ρ p o):DW P M' w ρ' p o':=by
 cases o with
 | cells l=>
  cases ho
  show Ai w p (l.map (up σ b)).length _
  rw [zE];refine Ai.out h rfl fun j u hj hu=>?_
  have:(l.map (up σ b)).getD j .any=up σ b (l.getD j .any):=by simp [hj]
  rw [this];exact ZM hM hρ _ hu
 | ints l=>cases ho;exact Ai.out h rfl fun j u _ hu=>hu
 | bools l=>cases ho;exact Ai.out h rfl fun j u _ hu=>hu
 | arr m n f=>cases ho;exact Ai.out h rfl fun j u _ hu=>AO.out _ (DZ hM []) hu
 | iter encs=>
  cases ho;obtain ⟨gf,lb,Rd,q1,q2,q3,q4⟩:=h;exact ⟨gf,lb,Rd,q1,q2,fun b hb=>⟨fun hm=>(q3 b hb).1 (hM b hm),(q3 b hb).2⟩,q4⟩
 | mo x=>cases ho;exact h
theorem vj {M M':Nat -> Prop} {w:World} {σ:List Nat} {b:Nat} {ρ ρ':List AN} {p:AN} (hM: ∀ b,M' b -> M b) (hρ: ∀ (k:Nat) (p:AN),ρ[El σ b k]? =some p -> ρ'[k]? =some p) {o o':DO} (ho:EA σ b (some o)=some o') (h:DW P M w ρ p o'):DW P M' w ρ' p o:=by
 cases o with
 | cells l=>
  cases ho;have h:Ai w p (l.map (up σ b)).length _:=h;rw [zE] at h;refine Ai.out h rfl fun j u hj hu=>?_
  have:(l.map (up σ b)).getD j .any=up σ b (l.getD j .any):=by simp [hj]
  rw [this] at hu;exact fk hM hρ _ hu
 | ints l=>cases ho;exact Ai.out h rfl fun j u _ hu=>hu
 | bools l=>cases ho;exact Ai.out h rfl fun j u _ hu=>hu
 | arr m n f=>cases ho;exact Ai.out h rfl fun j u _ hu=>AO.out _ (DZ hM []) hu
 | iter encs=>
  cases ho;obtain ⟨gf,lb,Rd,q1,q2,q3,q4⟩:=h;exact ⟨gf,lb,Rd,q1,q2,fun b hb=>⟨fun hm=>(q3 b hb).1 (hM b hm),(q3 b hb).2⟩,q4⟩
 | mo x=>cases ho;exact h
theorem ES.embedX {f:Nat} {ds:List DV} {h:DH} {d:DV} {h':DH} {ext:Bool} (Eb:ES P Γ f ds h d h' ext) (σ:List Nat) (H:DH) (hn:σ.Nodup) (AU: ∀ k∈σ,k<H.length) (hl:σ.length=h.length) (EY:h.length<=h'.length)
 (hh:(σ.map fun k=>H.getD k none)=h.map (EA σ H.length)):(∃ fn,P.funcs[f]? =some fn/\ fn.name≠ "runtime.NumGoroutine" /\ fn.body.isSome=true)/\
 ∀ (N:Nat -> Prop) (ρ:List AN) (w:World) (args:Array Value),BY P Γ N H ρ w -> B1 (MS N H ρ) w ρ (ds.map (up σ H.length)) args ->
  Calls P f args w fun e w'=>∃ v,e= .returned v/\ C1 P Γ N H ρ w ext (up σ H.length d) (Ee H σ h') v w'/\ AP (fun b=>∃ i o p,i∈σ/\ H[i]? =some (some o)/\ ρ[i]? =some p/\ p.foot b) w w':=by
 refine ⟨Eb.1,fun N ρ w args HR Ce=>?_⟩;obtain ⟨ρ0,dS⟩: ∃ ρ0,ρ0=σ.map fun k=>ρ.getD k cE:=⟨_,rfl⟩
 have cg:ρ0.length=σ.length:=by rw [dS];simp
 have I2: ∀ {i k:Nat},σ[i]? =some k -> ρ0[i]? =ρ[k]? :=fun {i k} hk=>by
  have Cl:k<ρ.length:=by rw [HR.len];exact AU k (zF hk)
  rw [dS,ye,hk];simp [Cl]
 have R5: ∀ {i:Nat},i<σ.length -> ∃ k,σ[i]? =some k/\ El σ H.length i=k:=fun {i} hi=>by
  refine ⟨σ[i],by simp [hi],?_⟩;unfold El;rw [xw hi];simp [hi]
 have Lw: ∀ {i:Nat} {o:DO},h[i]? =some (some o) -> ∃ k o',σ[i]? =some k/\ H[k]? =some (some o')/\ EA σ H.length (some o)=some o':=fun {i o} hi=>by
  have EH:i<σ.length:=by rw [hl];exact (yI.1 hi).1
  obtain ⟨k,hk,_⟩:=R5 EH;have e:=congrArg (·[i]?) hh;simp only [ye,hk,hi,yj] at e;have EZ:=AU k (zF hk);have e:H.getD k none=EA σ H.length (some o):=yH e;have e2: ∃ o',EA σ H.length (some o)=some o':=by cases o <;> exact ⟨_,rfl⟩
  obtain ⟨o',Ip⟩:=e2;refine ⟨k,o',hk,?_,Ip⟩;rw [Ip] at e;rw [xy EZ];rw [u8,xy EZ] at e;exact congrArg some e
 have n9: ∀ {i k:Nat} {o':DO},σ[i]? =some k -> H[k]? =some (some o') -> ∃ o,h[i]? =some (some o)/\ EA σ H.length (some o)=some o':=fun {i k o'} hk ho=>by
  have EH:i<h.length:=by rw [←hl];exact (yI.1 hk).1
  have e:=congrArg (·[i]?) hh;simp only [ye,hk,xy EH,yj] at e;have e:H.getD k none=EA σ H.length h[i]:=yH e;rw [fB ho] at e;obtain ⟨o0,e0⟩:=VC e.symm;exact ⟨o0,by rw [xy EH,e0],by rw [e0] at e;exact e.symm⟩
 obtain ⟨N0,H5⟩: ∃ N0:Nat -> Prop,N0=fun b=>N b∨∃ k o p,DY σ k=none/\ H[k]? =some (some o)/\ ρ[k]? =some p/\ p.foot b:=⟨_,rfl⟩
 have Px: ∀ b,MO h ρ0 b -> MO H ρ b:=by
  rintro b ⟨i,o,p,g1,g2,g3⟩;obtain ⟨k,o',e1,e2,_⟩:=Lw g1;exact ⟨k,o',p,e2,(I2 e1).symm.trans g2,g3⟩
 have WT: ∀ b,MS N0 h ρ0 b -> MS N H ρ b:=by
  rintro b (hb | hb)
  ·rw [H5] at hb;rcases hb with hb | ⟨k,o,p,_,g1,g2,g3⟩
   ·exact .inl hb
   ·exact .inr ⟨k,o,p,g1,g2,g3⟩
  ·exact .inr (Px b hb)
 have ms1: ∀ b,MS N H ρ b -> MS N0 h ρ0 b:=by
  rintro b (hb | ⟨k,o,p,g1,g2,g3⟩)
  ·exact .inl (by rw [H5];exact .inl hb)
  ·cases hk:DY σ k with
   | none=>exact .inl (by rw [H5];exact .inr ⟨k,o,p,hk,g1,g2,g3⟩)
   | some i=>
    have hi:=JS hk;obtain ⟨o0,e1,_⟩:=n9 hi g1;exact .inr ⟨i,o0,p,e1,(I2 hi).trans g2,g3⟩
 have dn: ∀ (k:Nat) (p:AN),ρ[El σ H.length k]? =some p -> ρ0[k]? =some p:=fun k p hp=>by
  by_cases hk:k<σ.length
  ·obtain ⟨k',e1,e2⟩:=R5 hk;rw [e2] at hp;exact (I2 e1).trans hp
  ·unfold El at hp;rw [yK hk] at hp;have:=(yI.1 hp).1;rw [HR.len] at this;omega
 have foreign: ∀ {b:Nat},N0 b -> ¬ MO h ρ0 b:=by
  rintro b hb ⟨i,o,p,g1,g2,g3⟩;obtain ⟨k,o',e1,e2,_⟩:=Lw g1;have hp:=(I2 e1).symm.trans g2;rw [H5] at hb;rcases hb with hb | ⟨k',o2,p2,q1,q2,q3,q4⟩
  ·exact (HR.cel k o' p b e2 hp g3).2.1 hb
  ·refine HR.dis k k' o' o2 p p2 b ?_ e2 q2 hp q3 g3 q4;rintro rfl;rw [Vp hn e1] at q1;cases q1
 have H0:BY P Γ N0 h ρ0 w:=by
  refine ⟨by rw [cg,hl],fun i o hi=>?_,fun i o p b g1 g2 g3=>?_,fun i i' o1 o2 p1 p2 b Aw g1 g2 g3 g4 g5 g6=>?_,fun b hb=>HR.lt2 (WT b (.inl hb)),HR.gi⟩
  ·obtain ⟨k,o',e1,e2,e3⟩:=Lw hi;obtain ⟨p,hp,hr⟩:=HR.obj k o' e2;exact ⟨p,(I2 e1).trans hp,vj WT dn e3 hr⟩
  ·obtain ⟨k,o',e1,e2,e3⟩:=Lw g1;obtain ⟨q1,q2,q3⟩:=HR.cel k o' p b e2 ((I2 e1).symm.trans g2) g3;exact ⟨q1,fun hb=>foreign hb ⟨i,o,p,g1,g2,g3⟩,q3⟩
  ·obtain ⟨k,o',e1,e2,e3⟩:=Lw g1;obtain ⟨k',oB,YJ,YI,e3'⟩:=Lw g2;refine HR.dis k k' o' oB p1 p2 b ?_ e2 YI ((I2 e1).symm.trans g3) ((I2 YJ).symm.trans g4) g5 g6;rintro rfl;have a1:=Vp hn e1;have a2:=Vp hn YJ;exact Aw (yH (a1.symm.trans a2))
 refine (Eb.2 N0 ρ0 w args H0 ⟨by rw [←Ce.1];simp,fun i hi=>?_⟩).mono ?_
 ·have:=Ce.2 i (by simpa using hi);have e:(ds.map (up σ H.length)).getD i .any=up σ H.length (ds.getD i .any):=by simp [hi]
  rw [e] at this;exact fk WT dn _ this
 ·rintro e w' ⟨v,rfl,⟨⟨ρ1,g1,g2,g3,g4⟩,g5⟩⟩;have l1:ρ1.length=h'.length:=g1.len;obtain ⟨ρ',Jl⟩: ∃ ρ',ρ'=ρ++ρ1.drop σ.length:=⟨_,rfl⟩
  have gp: ∀ {i k:Nat},σ[i]? =some k -> ρ1[i]? =ρ[k]? :=fun {i k} hk=>by
   have EH:i<ρ0.length:=by rw [cg];exact (yI.1 hk).1
   have:=g4 i ρ0[i] (by simp [EH]);rw [this,←I2 hk];simp [EH]
  have GH: ∀ {k:Nat},k<H.length -> ρ'[k]? =ρ[k]? :=fun {k} hk=>by rw [Jl,yb (by rw [HR.len];exact hk)]
  have ZL: ∀ (k:Nat) (p:AN),ρ1[k]? =some p -> ρ'[El σ H.length k]? =some p:=fun k p hp=>by
   by_cases hk:k<σ.length
   ·obtain ⟨k',e1,e2⟩:=R5 hk;rw [e2,GH (AU k' (zF e1)),←gp e1];exact hp
   ·unfold El;rw [yK hk,Jl,yi (by rw [HR.len];omega),zAK,HR.len];rw [show σ.length+(H.length+(k-σ.length)-H.length)=k by omega];exact hp
  have pj:(Ee H σ h').length=H.length+(h'.length-σ.length):=by simp [Ee]
  have LY: ∀ {k:Nat} {o':DO},(Ee H σ h')[k]? =some (some o') -> (k<H.length/\ DY σ k=none/\ H[k]? =some (some o')/\ ρ'[k]? =ρ[k]?)∨∃ i o,h'[i]? =some (some o)/\ EA σ H.length (some o)=some o'/\ ρ'[k]? =ρ1[i]? /\ k=El σ H.length i:=by
   intro k o' hk
   by_cases EZ:k<H.length
   ·unfold Ee at hk;rw [yb (by simpa using EZ),ye,zAj EZ] at hk;simp only [yj,zM] at hk;split at hk
    ·rename_i i hi;have Tu:=JS hi;obtain ⟨o0,e0⟩:=VC hk;have EH:i<h'.length:=yM (by rw [←hl];exact (yI.1 Tu).1) EY;rw [e0] at hk;refine .inr ⟨i,o0,?_,hk,?_,?_⟩
     ·rw [xy EH];rw [u8,xy EH] at e0;exact congrArg some e0
     ·rw [GH EZ,gp Tu]
     ·obtain ⟨k2,e1,e2⟩:=R5 (yI.1 Tu).1;rw [e2];exact yH (Tu.symm.trans e1)
    ·rename_i hi;refine .inl ⟨EZ,hi,?_,GH EZ⟩;rw [xy EZ];rw [u8,xy EZ] at hk;exact congrArg some hk
   ·unfold Ee at hk;rw [yi (by simp;omega),ye,zAK] at hk;simp only [zE,zAU] at hk;cases hx:h'[σ.length+(k-H.length)]? with
    | none=>rw [hx] at hk;cases hk
    | some x=>
     rw [hx] at hk;have hk:EA σ H.length x=some o':=yH hk;obtain ⟨o0,e0⟩:=VC hk;subst e0;refine .inr ⟨σ.length+(k-H.length),o0,hx,hk,?_,?_⟩
     ·rw [Jl,yi (by rw [HR.len];omega),zAK,HR.len]
     ·unfold El;rw [yK (by omega)];omega
  have back: ∀ {k:Nat} {o:DO},DY σ k=none -> H[k]? =some (some o) -> (Ee H σ h')[k]? =some (some o):=by
   intro k o hk ho;have EZ:=(yI.1 ho).1;unfold Ee;rw [yb (by simpa using EZ),ye,zAj EZ];simp only [yj,hk,fB ho]
  have cK: ∀ b,MS N (Ee H σ h') ρ' b -> MS N0 h' ρ1 b:=by
   rintro b (hb | ⟨k,o',p,q1,q2,q3⟩)
   ·exact .inl (by rw [H5];exact .inl hb)
   ·rcases LY q1 with ⟨a1,a2,a3,a4⟩ | ⟨i,o,a1,a2,a3,a4⟩
    ·exact .inl (by rw [H5];exact .inr ⟨k,o',p,a2,a3,a4.symm.trans q2,q3⟩)
    ·exact .inr ⟨i,o,p,a1,a3.symm.trans q2,q3⟩
  have grow: ∀ b,MO (Ee H σ h') ρ' b -> MO H ρ b∨w.heap.size<=b:=by
   rintro b ⟨k,o',p,q1,q2,q3⟩;rcases LY q1 with ⟨a1,a2,a3,a4⟩ | ⟨i,o,a1,a2,a3,a4⟩
   ·exact .inl ⟨k,o',p,a3,a4.symm.trans q2,q3⟩
   ·exact (g3.grow b ⟨i,o,p,a1,a3.symm.trans q2,q3⟩).imp (Px b) id
  have pl: ∀ (k:Nat) (p:AN),ρ[k]? =some p -> ρ'[k]? =some p:=fun k p hp=>by
   rw [Jl,yb (yI.1 hp).1];exact hp
  have O:Bc (MS N H ρ) w ρ (MS N (Ee H σ h') ρ') w' ρ':=
   ⟨fun b hb hm _=>g3.upd.block b hb fun hx=>hm (.inr (Px b hx)),fun b hb=>hb.elim (fun hb=>.inl (.inl hb)) (fun hb=>(grow b hb).imp .inr id),pl⟩
  refine ⟨v,rfl,⟨⟨ρ',⟨?_,fun k o' hk=>?_,fun k o' p b q1 q2 q3=>?_,fun k k' o1 o2 p1 p2 b Aw q1 q2 q3 q4 q5 q6=>?_,fun b hb=>⟨yM (HR.nlt b hb).1 g3.upd.size,(HR.nlt b hb).2⟩,g1.gi⟩,ZM cK ZL _ g2,⟨g3.upd.mono fun b _ hb=>Px b hb,grow⟩,pl⟩,g5⟩,g3.upd.mono fun b _ ⟨i,o,p,q1,q2,q3⟩=>?_⟩
  ·rw [pj,Jl];simp [HR.len,l1]
  ·rcases LY hk with ⟨a1,a2,a3,a4⟩ | ⟨i,o,a1,a2,a3,a4⟩
   ·obtain ⟨p,hp,hr⟩:=HR.obj k o' a3;refine ⟨p,a4.trans hp,hr.out O g3.upd (fun b hb=>.inr (Px b hb)) fun b _ hf hs=>?_⟩;exact foreign (by rw [H5];exact .inr ⟨k,o',p,a2,a3,hp,hf⟩) hs
   ·obtain ⟨p,hp,hr⟩:=g1.obj i o a1;exact ⟨p,a3.trans hp,ig cK ZL a2 hr⟩
  ·rcases LY q1 with ⟨a1,a2,a3,a4⟩ | ⟨i,o,a1,a2,a3,a4⟩
   ·have hp:=a4.symm.trans q2;obtain ⟨c1,c2,c,t,z,c3⟩:=HR.cel k o' p b a3 hp q3;refine ⟨c1,c2,c,t,z,(g3.upd.block b (xz.1 c3).1 fun hx=>?_).trans c3⟩;exact foreign (by rw [H5];exact .inr ⟨k,o',p,a2,a3,hp,q3⟩) hx
   ·obtain ⟨c1,c2,c3⟩:=g1.cel i o p b a1 (a3.symm.trans q2) q3;exact ⟨c1,fun hb=>c2 (by rw [H5];exact .inl hb),c3⟩
  ·rcases LY q1 with ⟨a1,a2,a3,a4⟩ | ⟨i,o,a1,a2,a3,a4⟩
   ·rcases LY q2 with ⟨c1,c2,c3,c4⟩ | ⟨i',o',c1,c2,c3,c4⟩
    ·exact HR.dis k k' o1 o2 p1 p2 b Aw a3 c3 (a4.symm.trans q3) (c4.symm.trans q4) q5 q6
    ·exact (g1.cel i' o' p2 b c1 (c3.symm.trans q4) q6).2.1 (by rw [H5];exact .inr ⟨k,o1,p1,a2,a3,a4.symm.trans q3,q5⟩)
   ·rcases LY q2 with ⟨c1,c2,c3,c4⟩ | ⟨i',o',c1,c2,c3,c4⟩
    ·exact (g1.cel i o p1 b a1 (a3.symm.trans q3) q5).2.1 (by rw [H5];exact .inr ⟨k',o2,p2,c2,c3,c4.symm.trans q4,q6⟩)
    ·refine g1.dis i i' o o' p1 p2 b ?_ a1 c1 (a3.symm.trans q3) (c3.symm.trans q4) q5 q6;rintro rfl;exact Aw (a4.trans c4.symm)
  ·obtain ⟨k,o',e1,e2,_⟩:=Lw q1;exact ⟨k,o',p,zF e1,e2,(I2 e1).symm.trans q2,q3⟩
theorem ES.embed {f:Nat} {ds:List DV} {h:DH} {d:DV} {h':DH} {ext:Bool} (Eb:ES P Γ f ds h d h' ext) (σ:List Nat) (H:DH) (hn:σ.Nodup) (AU: ∀ k∈σ,k<H.length) (hl:σ.length=h.length) (EY:h.length<=h'.length)
 (hh:(σ.map fun k=>H.getD k none)=h.map (EA σ H.length)):ES P Γ f (ds.map (up σ H.length)) H (up σ H.length d) (Ee H σ h') ext:=
 let ⟨h1,h2⟩:=Eb.embedX σ H hn AU hl EY hh
 ⟨h1,fun N ρ w args HR ha=>(h2 N ρ w args HR ha).mono fun _ _ ⟨v,e,g,_⟩=>⟨v,e,g⟩⟩
def LD (σ:List Nat) (n l l':Nat):Bool:=decide σ.Nodup&&σ.all (fun k=>decide (k<n))&&decide (σ.length=l)&&decide (l<=l')
theorem ES.embedB {f:Nat} {ds:List DV} {h:DH} {d:DV} {h':DH} {ext:Bool} (Eb:ES P Γ f ds h d h' ext) (σ:List Nat) (H:DH) (hb:LD σ H.length h.length h'.length=true) (hh:(σ.map fun k=>H.getD k none)=h.map (EA σ H.length))
 {YL:List DV} {d1:DV} {H1:DH} (e:(ds.map (up σ H.length),up σ H.length d,Ee H σ h')=(YL,d1,H1)):ES P Γ f YL H d1 H1 ext:=by
 simp only [LD,yD,yd,yJ] at hb;cases e;exact Eb.embed σ H hb.1.1.1 (fun k hk=>hb.1.1.2 k hk) hb.1.2 hb.2 hh
theorem ES.embedU {f:Nat} {ds:List DV} {h:DH} {d:DV} {h':DH} {ext:Bool} (Eb:ES P Γ f ds h d h' ext) (σ:List Nat) (H:DH) (k:Nat) (hb:LD σ H.length h.length h'.length=true) (hk:σ.all (fun j=>Nat.ble k j)=true) (hh:(σ.map fun k=>H.getD k none)=h.map (EA σ H.length)):M4 P Γ f (ds.map (up σ H.length)) H (up σ H.length d) (Ee H σ h') k:=by
 simp only [LD,yD,yd,yJ] at hb;obtain ⟨h1,h2⟩:=Eb.embedX σ H hb.1.1.1 (fun k hk=>hb.1.1.2 k hk) hb.1.2 hb.2 hh;refine ⟨h1,fun N ρ w args HR ha=>(h2 N ρ w args HR ha).mono ?_⟩;rintro e w' ⟨v,e,⟨g1,g2⟩,hu⟩;exact ⟨v,e,⟨g1,fun h=>by cases h⟩,hu.mono fun b _ ⟨i,o,p,q1,q2⟩=>⟨i,o,p,zX (yJ.1 hk i q1),q2⟩⟩
end
end Go.Proofs.YtgkhhfnhacibcaaGreatDoor
namespace Go.Proofs.YtgkhhfnhacibcaaGreatDoor
abbrev ym:=@List.drop_eq_getElem_cons
abbrev zl:=@of_decide_eq_true
end Go.Proofs.YtgkhhfnhacibcaaGreatDoor
namespace Go.Proofs.YtgkhhfnhacibcaaGreatDoor
open Go.RowKit
section
variable {P:Program} {Γ:BB}
theorem BY.foreign {N1 N2 G:Nat -> Prop} {h:DH} {ρ:List AN} {A B:World} (H:BY P Γ N1 h ρ A) (hu:AP G A B) (hG: ∀ b,G b -> N1 b/\ Γ.ng<=b) (hN: ∀ b,N2 b -> N1 b∨A.heap.size<=b) (hb: ∀ b,N2 b -> b<B.heap.size/\ Γ.ng<=b):BY P Γ N2 h ρ B:=by
 have O:Bc (MS N1 h ρ) A ρ (MS N2 h ρ) B ρ:=⟨fun b AU hm _=>hu.block b AU fun hx=>hm (.inl (hG b hx).1),fun b hb=>hb.elim (fun h=>(hN b h).imp .inl id) (fun h=>.inl (.inr h)),fun _ _ h=>h⟩;refine ⟨H.len,fun k o hk=>?_,fun k o p b h1 h2 h3=>?_,H.dis,hb,Γ.st _ _ H.gi (hu.mono fun i _ hx=>(hG i hx).2)⟩
 ·obtain ⟨p,hp,hr⟩:=H.obj k o hk;exact ⟨p,hp,hr.out O hu (fun b hb=>.inl (hG b hb).1) fun b _ hf hs=>(H.cel k o p b hk hp hf).2.1 (hG b hs).1⟩
 ·obtain ⟨c1,c2,c,t,z,c3⟩:=H.cel k o p b h1 h2 h3;have AU:=(xz.1 c3).1;exact ⟨c1,fun hn=>(hN b hn).elim c2 (by omega),c,t,z,(hu.block b AU fun hx=>c2 (hG b hx).1).trans c3⟩
theorem Bc.foreign {N1 N2 G:Nat -> Prop} {h:DH} {ρ:List AN} {A B:World} (hu:AP G A B) (hG: ∀ b,G b -> N1 b/\ Γ.ng<=b) (hN: ∀ b,N2 b -> N1 b∨A.heap.size<=b):Bc (MS N1 h ρ) A ρ (MS N2 h ρ) B ρ:=
 ⟨fun b AU hm _=>hu.block b AU fun hx=>hm (.inl (hG b hx).1),fun b hb=>hb.elim (fun h=>(hN b h).imp .inl id) (fun h=>.inl (.inr h)),fun _ _ h=>h⟩
def JL (fr:List DV) (ps:List Tmp) (x:List Value):List DV:=(ps.zip x).foldl (fun t q=>t.set q.1 (FC q.2)) fr
theorem aM {M:Nat -> Prop} {w:World} {ρ:List AN}: ∀ (l:List (Tmp×Value)) {fr:List DV} {t:Array Value},B1 M w ρ fr t -> B1 M w ρ (l.foldl (fun t q=>t.set q.1 (FC q.2)) fr) (l.foldl (fun t (q:Tmp×Value)=>t.setIfInBounds q.1 q.2) t)
 | [],_,_,h=>h
 | q::l,_,_,h=>aM l (h.set q.1 (Pm _))
def GF (K:Nat):DV -> Bool
 | .ref k _=>decide (k<K)
 | .msl k _ _ _=>decide (k<K)
 | .mse k _ _ _=>decide (k<K)
 | .mri k _=>decide (k<K)
 | .mp k _ _ _=>decide (k<K)
 | .it k=>decide (k<K)
 | .agg m f=>(List.range m).all fun j=>GF K (f j)
 | .tup m f=>(List.range m).all fun j=>GF K (f j)
 | .fn _ m f=>(List.range m).all fun j=>GF K (f j)
 | _=>true
theorem N8 {α:Type} {l:List α} {K k:Nat} {x:α} (hk:k<K) (h:l[k]? =some x):(l.take K)[k]? =some x:=by rw [List.getElem?_take,xw hk];exact h
theorem AO.take {M:Nat -> Prop} {w:World} {K:Nat}: ∀ (d:DV) {ρ:List AN} {v:Value},GF K d=true -> AO M w d ρ v -> AO M w d (ρ.take K) v:=by
 intro d
 induction d with
 | ref k j=>rintro ρ v hb ⟨p,h,e⟩;exact ⟨p,N8 (zl hb) h,e⟩
 | msl k m off n=>rintro ρ v hb ⟨p,cap,h,e⟩;exact ⟨p,cap,N8 (zl hb) h,e⟩
 | mp k m i j=>rintro ρ v hb ⟨p,h,e⟩;exact ⟨p,N8 (zl hb) h,e⟩
 | it k=>rintro ρ v hb ⟨p,h,e⟩;exact ⟨p,N8 (zl hb) h,e⟩
 | agg m f ih=>
  rintro ρ v hb ⟨cs,e,hs,h⟩;exact ⟨cs,e,hs,fun j hj=>let ⟨u,h1,h2⟩:=h j hj;⟨u,h1,ih j (yJ.1 hb j (yR.2 hj)) h2⟩⟩
 | tup m f ih=>
  rintro ρ v hb ⟨cs,e,hs,h⟩;exact ⟨cs,e,hs,fun j hj=>let ⟨u,h1,h2⟩:=h j hj;⟨u,h1,ih j (yJ.1 hb j (yR.2 hj)) h2⟩⟩
 | fn g m f ih=>
  rintro ρ v hb ⟨cs,e,hs,h⟩;exact ⟨cs,e,hs,fun j hj=>let ⟨u,h1,h2⟩:=h j hj;⟨u,h1,ih j (yJ.1 hb j (yR.2 hj)) h2⟩⟩
 | yl l=>rintro ρ v _ h;exact h
 | cst u=>rintro ρ v _ h;exact h
 | mse k m off n=>rintro ρ v hb ⟨p,a,cap,h,e⟩;exact ⟨p,a,cap,N8 (zl hb) h,e⟩
 | mri k i=>rintro ρ v hb ⟨p,vs,h,e⟩;exact ⟨p,vs,N8 (zl hb) h,e⟩
 | any=>rintro ρ v _ h;trivial
 | nils=>rintro ρ v _ h;exact h
 | int k n=>rintro ρ v _ h;exact h
 | bool b=>rintro ρ v _ h;exact h
 | str s=>rintro ρ v _ h;exact h
 | ints l=>rintro ρ v _ h;exact h
 | bools l=>rintro ρ v _ h;exact h
 | sl m n f=>rintro ρ v _ h;exact h
 | fp m f=>rintro ρ v _ h;exact h
theorem B1.take {M:Nat -> Prop} {w:World} {K:Nat} {ρ:List AN} {fr:List DV} {t:Array Value} (h:B1 M w ρ fr t) (hb:fr.all (GF K)=true):B1 M w (ρ.take K) fr t:=by
 refine ⟨h.1,fun i hi=>AO.take _ ?_ (h.2 i hi)⟩;have:fr.getD i .any∈fr:=by simp [u8,hi]
 exact yJ.1 hb _ this
structure RI (K:Nat) (P:Program) (Γ:BB) (N:Nat -> Prop) (h0:DH) (ρ0:List AN) (w0:World) (G:Nat -> Prop) (W:World) (h:DH) (ρ:List AN):Prop where
 hr:BY P Γ (fun b=>N b∨G b) h ρ W
 upd:AP (MO h0 ρ0) w0 W
 grow: ∀ b,MO h ρ b -> MO h0 ρ0 b∨w0.heap.size<=b
 g: ∀ b,G b -> Γ.ng<=b/\ (MO h0 ρ0 b∨w0.heap.size<=b)
 kept:D9 K ρ0 ρ
theorem RI.stable {K:Nat} {N:Nat -> Prop} {h0:DH} {ρ0:List AN} {w0:World} (GN:Γ.ng<=w0.heap.size) {G G':Nat -> Prop} {A B:World} {h:DH} {ρ:List AN} (R:RI K P Γ N h0 ρ0 w0 G A h ρ) (hu:AP G A B) (hg: ∀ k,G' k -> G k∨A.heap.size<=k) (hb: ∀ k,G' k -> k<B.heap.size):RI K P Γ N h0 ρ0 w0 G' B h ρ:=by
 have hs:w0.heap.size<=A.heap.size:=R.upd.size;refine ⟨R.hr.foreign hu (fun b hx=>⟨.inr hx,(R.g b hx).1⟩) (fun b hx=>?_) (fun b hx=>?_),R.upd.comp hu fun i hi hx=>(R.g i hx).2.resolve_right (by omega),R.grow,fun b hx=>?_,R.kept⟩
 ·rcases hx with hx | hx
  ·exact .inl (.inl hx)
  ·exact (hg b hx).imp .inr id
 ·rcases hx with hx | hx
  ·exact ⟨yM (R.hr.nlt b (.inl hx)).1 hu.size,(R.hr.nlt b (.inl hx)).2⟩
  ·exact ⟨hb b hx,(hg b hx).elim (fun h=>(R.g b h).1) (fun h=>by omega)⟩
 ·rcases hg b hx with hx | hx
  ·exact R.g b hx
  ·exact ⟨by omega,.inr (by omega)⟩
theorem RI.outl {K:Nat} {N:Nat -> Prop} {h0:DH} {ρ0:List AN} {w0:World} {G:Nat -> Prop} {W:World} {h:DH} {ρ:List AN} (R:RI K P Γ N h0 ρ0 w0 G W h ρ):Bc (MS N h0 ρ0) w0 (ρ0.take K) (MS (fun b=>N b∨G b) h ρ) W ρ:=
 ⟨fun b AU hm _=>R.upd.block b AU fun hx=>hm (.inr hx),fun b hb=>by
  rcases hb with (hb | hb) | hb
  ·exact .inl (.inl hb)
  ·exact (R.g b hb).2.imp .inr id
  ·exact (R.grow b hb).imp .inr id,fun k p hk=>by
  rw [List.getElem?_take] at hk
  by_cases e:k<K
  ·rw [xw e] at hk;exact R.kept k p e hk
  ·rw [yK e] at hk;cases hk⟩
def Jy:Exit -> Option Code
 | .ret=>some .ret
 | .exit id=>some (.exit id)
 | _=>none
def Y6 (L:Nat) (J:DH -> Prop) (Jx:Exit -> DH -> Prop) (e:Exit) (S:St):Prop:=∃ S3,BT L S S3/\ ((e= .normal/\ J S3.h)∨((Jy e).isSome=true/\ Jx e S3.h))
def iJ (P:Program) (Γ:BB) (fr:List DV) (ps:List Tmp) (assign body:Code) (L:Nat) (J:Nat -> DH -> Prop) (Jx:Exit -> DH -> Prop) (encs:List (Array Value)):Prop:=
 ∀ (l B:Nat) (Y:Ba P Γ L) (i:Nat) (x:Array Value) (h:DH),encs[i]? =some x -> J i h ->
  Tr P Γ (Fence.wide.inRound l) (some B) L Y assign ⟨JL fr ps x.toList,h⟩ (Oi (fun S' Y'=>Y'=Y/\ ∀ Y2:Ba P Γ L,Tr P Γ (Fence.wide.inRound l) (some B) L Y2 body S' (stay Y2 (Y6 L (J (i+1)) Jx))) (fun _ _ _=>False))
theorem bH {N:Nat -> Prop} {S:St} {ρ:List AN} {a:Act} {w:World} (R:Ad P Γ N S ρ a w) {ps:Array Tmp} {assign body:Code} {encs:List (Array Value)} {J:Nat -> DH -> Prop} {Jx:Exit -> DH -> Prop} {Rd:Nat -> Prop} {l KK:Nat} (Dc:S.fr.all (GF KK)=true)
 (Iu: ∀ b,Rd b -> ¬ MS N S.h ρ b/\ b<w.heap.size) (DR:iJ P Γ S.fr ps.toList assign body KK J Jx encs)
 (G:Nat -> Prop) (i:Nat) (x:Array Value) (W:World) (hx:encs[i]? =some x) (hI: ∃ h ρ',J i h/\ RI KK P Γ N S.h ρ w G W h ρ') (hl: ∃ r,W.heap[l]? =some (.loop r)) (Ca:G l):
 assign.wpIn (Fence.wide.inRound l) 0 P (Exit.then (fun a₁ W₁=>∃ K:(Nat -> Prop) -> World -> Prop,Eg K/\ AP (fun k=>¬ (G k∨Rd k)) W W₁/\ K G W₁/\ ∀ W₂,K G W₂ -> (∃ r,W₂.heap[l]? =some (.loop r)) ->
  body.wpIn (Fence.wide.inRound l) 0 P (SI (fun k=>G k∨Rd k) (fun W'=>∃ h ρ',J (i+1) h/\ RI KK P Γ N S.h ρ w G W' h ρ') (fun c W'=>∃ e,Jy e=some c/\ ∃ h ρ',Jx e h/\ RI KK P Γ N S.h ρ w G W' h ρ') W₂) a₁ W₂) (fun _ _ _=>False)) { tmps:=(ps.zip x).foldl (fun t (p,v)=>t.setIfInBounds p v) a.tmps,defers:=[] } W:=by
 obtain ⟨h,ρ1,hJ,hR⟩:=hI;have GN:Γ.ng<=w.heap.size:=Γ.lo _ R.hr.gi
 have UC:B1 (MS (fun b=>N b∨G b) h ρ1) W ρ1 (JL S.fr ps.toList x.toList) ((ps.zip x).foldl (fun t (p,v)=>t.setIfInBounds p v) a.tmps):=by
  have:=aM (ps.zip x).toList ((R.fr.take Dc).out hR.outl);rw [Array.toList_zip] at this;rw [←Array.foldl_toList,Array.toList_zip];exact this
 have off: ∀ {G:Nat -> Prop} {W:World} {h:DH} {ρ1:List AN},RI KK P Γ N S.h ρ w G W h ρ1 -> ∀ b,MO h ρ1 b -> ¬ (G b∨Rd b):=by
  rintro G W h ρ1 hR b hm (hg | hd)
  ·obtain ⟨k,o,p,q1,q2,q3⟩:=hm;exact (hR.hr.cel k o p b q1 q2 q3).2.1 (.inr hg)
  ·rcases hR.grow b hm with hm | hm
   ·exact (Iu b hd).1 (.inr hm)
   ·have:=(Iu b hd).2;omega
 have step: ∀ {G:Nat -> Prop} {W W':World} {h h':DH} {ρ1 ρ2:List AN},RI KK P Γ N S.h ρ w G W h ρ1 -> BY P Γ (fun b=>N b∨G b) h' ρ2 W' -> BN h ρ1 W h' ρ2 W' -> D9 KK ρ1 ρ2 -> RI KK P Γ N S.h ρ w G W' h' ρ2:=by
  intro G W W' h h' ρ1 ρ2 hR DC st hk;have hs:=hR.upd.size;exact ⟨DC,hR.upd.comp st.upd fun b hb hm=>(hR.grow b hm).resolve_right (by omega),fun b hb=>(st.grow b hb).elim (hR.grow b) fun h=>.inr (by omega),hR.g,hR.kept.trans hk⟩
 have bd:Bd (Fence.wide.inRound l) (some W.heap.size) W:=⟨fun b e=>by cases e;exact yS _,fun l' e=>by cases e;exact hl⟩;refine zAC (DR l W.heap.size (Ow P Γ KK (fun b=>N b∨G b) h ρ1 W) i x h hx hJ _ ρ1 _ W ⟨hR.hr,UC⟩ ⟨rfl,BN.refl _ _ _,D9.refl _ _⟩ trivial bd) ?_;rintro e a1 W1 ⟨S',ρ2,N2,Y2,h1,h2,h3,h4,_⟩;cases e with
 | normal=>
  obtain ⟨rfl,h1⟩:=h1;obtain ⟨rfl,h3,h5⟩:=h3;refine ⟨fun G' W'=>RI KK P Γ N S.h ρ w G' W' S'.h ρ2/\ B1 (MS (fun b=>N b∨G' b) S'.h ρ2) W' ρ2 S'.fr a1.tmps/\ D8 W.heap.size a1.defers W'/\ W1.heap.size<=W'.heap.size/\ (∀ b,G' b -> b<W.heap.size∨W1.heap.size<=b)/\ (∀ d∈a1.defers,∀ D,d.target= .collected D -> D<W1.heap.size),?_,h3.upd.mono fun b _ hm=>off hR b hm,⟨step hR h2.hr h3 h5,h2.fr,h4,yS _,fun b hg=>.inl (hR.hr.nlt b (.inr hg)).1,fun d hd D ht=>D8.lt h4 hd ht⟩,?_⟩
  ·rintro G1 G2 A C ⟨q1,q2,q3,q4,q5,q6⟩ hu hg hb;have uT:=q1.stable GN hu hg hb;refine ⟨uT,q2.out (Bc.foreign (Γ:=Γ) hu (fun b hx=>⟨.inr hx,(q1.g b hx).1⟩) fun b hx=>?_),?_,yO q4 hu.size,fun b hx=>(hg b hx).elim (q5 b) (fun h=>.inr (by omega)),q6⟩
   ·rcases hx with hx | hx
    ·exact .inl (.inl hx)
    ·exact (hg b hx).imp .inr id
   ·have go: ∀ {ds:List Deferred},D8 W.heap.size ds A -> (∀ d∈ds,∀ D,d.target= .collected D -> D<W1.heap.size) -> D8 W.heap.size ds C:=by
     intro ds
     induction ds with
     | nil=>intros;trivial
     | cons d ds ih=>
      rintro ⟨D,r1,r2,r3,r4,r5⟩ AU;have hD:D<W1.heap.size:=AU d (by simp) D (by rw [r1]);refine ⟨D,r1,r2,(hu.block D (xz.1 r3).1 fun hx=>?_).trans r3,r4,ih r5 fun d' Xp=>AU d' (by simp [Xp])⟩;rcases q5 D hx with h | h <;> omega
    exact go q3 q6
  ·rintro W2 ⟨q1,q2,q3,q4,q5,q6⟩ CO;have w8:Bd (Fence.wide.inRound l) (some W.heap.size) W2:=⟨fun b e=>by cases e;exact yO h3.upd.size q4,fun l' e=>by cases e;exact CO⟩;refine zAC (h1 (Ow P Γ KK (fun b=>N b∨G b) S'.h ρ2 W2) _ ρ2 a1 W2 ⟨q1.hr,q2⟩ ⟨rfl,BN.refl _ _ _,D9.refl _ _⟩ q3 w8) ?_;rintro e a3 W3 ⟨S3,ρ3,N3,Y3,r1,r2,r3,r4,_⟩
   have out: ∀ e,(Ow P Γ KK (fun b=>N b∨G b) S'.h ρ2 W2).I N3 S3.h ρ3 W3 -> Y6 KK (J (i+1)) Jx e S3 -> AP (fun k=>¬ (G k∨Rd k)) W2 W3/\ ((e= .normal/\ ∃ h ρ',J (i+1) h/\ RI KK P Γ N S.h ρ w G W3 h ρ')∨((Jy e).isSome=true/\ ∃ h ρ',Jx e h/\ RI KK P Γ N S.h ρ w G W3 h ρ')):=by
    rintro e r0 ⟨S4,CC,ub⟩;obtain ⟨rfl,r3,r5⟩:=r0;obtain ⟨ρ4,R4,s4,k4⟩:=CC P Γ _ ρ3 a3 W3 r2;have db:=step q1 R4.hr (r3.trans s4) (r5.trans k4);exact ⟨r3.upd.mono fun b _ hm=>off q1 b hm,ub.imp (fun ⟨x,y⟩=>⟨x,S4.h,ρ4,y,db⟩) (fun ⟨x,y⟩=>⟨x,S4.h,ρ4,y,db⟩)⟩
   cases e with
   | normal=>
    obtain ⟨rfl,r1⟩:=r1;obtain ⟨o1,o2⟩:=out _ r3 r1;rcases o2 with ⟨_,o2⟩ | ⟨o2,_⟩
    ·exact ⟨o1,o2⟩
    ·cases o2
   | ret=>
    obtain ⟨rfl,r1⟩:=r1;obtain ⟨o1,o2⟩:=out _ r3 r1;rcases o2 with ⟨o2,_⟩ | ⟨_,o2⟩
    ·cases o2
    ·exact ⟨o1,.ret,rfl,o2⟩
   | exit id=>
    obtain ⟨rfl,r1⟩:=r1;obtain ⟨o1,o2⟩:=out _ r3 r1;rcases o2 with ⟨o2,_⟩ | ⟨_,o2⟩
    ·cases o2
    ·exact ⟨o1,.exit id,rfl,o2⟩
   | goto t=>
    obtain ⟨rfl,r1⟩:=r1;obtain ⟨o1,o2⟩:=out _ r3 r1;rcases o2 with ⟨o2,_⟩ | ⟨o2,_⟩ <;> cases o2
   | panic c=>exact r1.elim
   | outgrown=>exact r1.elim
 | ret=>exact h1.elim
 | exit id=>exact h1.elim
 | goto t=>exact h1.elim
 | panic c=>exact h1.elim
 | outgrown=>exact h1.elim
theorem Tr.range {F:Fence} (H6:F=Fence.wide∨∃ l,F=Fence.wide.inRound l) {B L:Nat} {Y:Ba P Γ L} {S:St} {g:Operand} {ps:Array Tmp} {assign body:Code} {Q:QY P Γ L} {k:Nat} {encs:List (Array Value)} (J:Nat -> DH -> Prop) (Jx:Exit -> DH -> Prop)
 (hg:Ac S.fr g= .it k) (hk:S.h[k]? =some (some (.iter encs))) (Dp: ∀ x∈encs,x.size=ps.size) {KK:Nat} (hL:L<=KK) (Dc:S.fr.all (GF KK)=true) (h0:J 0 (S.h.set k none))
 (DR:iJ P Γ S.fr ps.toList assign body KK J Jx encs) (D4: ∀ h,J encs.length h -> Q .normal ⟨S.fr,h⟩ Y) (No: ∀ e h,(Jy e).isSome=true -> Jx e h -> Q e ⟨S.fr,h⟩ Y):Tr P Γ F (some B) L Y (.rangeFunc g ps assign body) S Q:=fun N ρ a w R y m b=>by
 have hx:=Bh R g;rw [hg] at hx;obtain ⟨p,hp,hv⟩:=hx;obtain ⟨p',BJ,gf,lb,Rd,⟨e1,e2⟩,q2,q3,q4⟩:=R.hr.obj k _ hk;have ep:p'=p:=yH (BJ.symm.trans hp);subst ep;have eB:a.eval g= .func (.func gf) #[] lb:=hv.trans e1;have GN:Γ.ng<=w.heap.size:=Γ.lo _ R.hr.gi;have eW: ∀ b,p'.foot b -> MO S.h ρ b:=fun b hb=>⟨k,_,p',hk,hp,hb⟩
 have eX: ∃ h ρ',J 0 h/\ RI KK P Γ N S.h ρ w p'.foot w h ρ':=by
  refine ⟨S.h.set k none,ρ,h0,?_,AP.refl _ _,fun b hb=>.inl (MO.kill hb),fun b hb=>⟨(R.hr.cel k _ p' b hk hp hb).1,.inl (eW b hb)⟩,D9.refl _ _⟩;have H1:BY P Γ N (S.h.set k none) ρ w:=R.hr.kill k
  have rM: ∀ b,MS (fun b=>N b∨p'.foot b) (S.h.set k none) ρ b -> MS N S.h ρ b:=fun b hb=>by
   rcases hb with (hb | hb) | hb
   ·exact .inl hb
   ·exact .inr (eW b hb)
   ·exact .inr (MO.kill hb)
  refine ⟨H1.len,fun i o hi=>?_,fun i o p2 b g1 g2 g3=>?_,H1.dis,fun b hb=>hb.elim (R.hr.nlt b) fun h=>⟨q4 b h,(R.hr.cel k _ p' b hk hp h).1⟩,R.hr.gi⟩
  ·obtain ⟨Aw,BM⟩:=Fd hi;obtain ⟨p2,ML,hr⟩:=R.hr.obj i o BM;exact ⟨p2,ML,hr.out (DZ rM ρ) (S:=fun _=>False) (AP.refl _ _) (fun _ h=>h.elim) fun _ _ _ h=>h⟩
  ·obtain ⟨Aw,BM⟩:=Fd g1;obtain ⟨c1,c2,c3⟩:=R.hr.cel i o p2 b BM g2 g3;exact ⟨c1,fun hb=>hb.elim c2 fun hb=>R.hr.dis i k o _ p2 p' b Aw BM hk g2 hp g3 hb,c3⟩
 have D1: ∀ i,Eg (fun G W=>∃ h ρ',J i h/\ RI KK P Γ N S.h ρ w G W h ρ'):=fun i G G' A C ⟨h,ρ',h1,h2⟩ hu Xi hb=>⟨h,ρ',h1,h2.stable GN hu Xi hb⟩
 have fin: ∀ {G:Nat -> Prop} {W:World} {h:DH} {ρ':List AN},RI KK P Γ N S.h ρ w G W h ρ' -> BY P Γ N h ρ' W:=fun {G W h ρ'} hR=>
  hR.hr.foreign (G:=fun _=>False) (AP.refl _ _) (fun _ h=>h.elim) (fun b hb=>.inl (.inl hb)) fun b hb=>hR.hr.nlt b (.inl hb)
 have OC: ∀ {G:Nat -> Prop} {W:World} {h:DH} {ρ':List AN},RI KK P Γ N S.h ρ w G W h ρ' -> B1 (MS N h ρ') W ρ' S.fr a.tmps:=fun {G W h ρ'} hR=>
  ((R.fr.take Dc).out hR.outl).out (DZ (fun b hb=>hb.imp .inl id) ρ')
 have FS: ∀ {G:Nat -> Prop} {W:World} {h:DH} {ρ':List AN},RI KK P Γ N S.h ρ w G W h ρ' -> BN S.h ρ w h ρ' W:=fun hR=>⟨hR.upd,hR.grow⟩
 have da: ∀ c,Eg (fun G W=>∃ e,Jy e=some c/\ ∃ h ρ',Jx e h/\ RI KK P Γ N S.h ρ w G W h ρ'):=fun c G G' A C ⟨e,he,h,ρ',h1,h2⟩ hu Xi hb=>⟨e,he,h,ρ',h1,h2.stable GN hu Xi hb⟩
 have kp: ∀ {G:Nat -> Prop} {W:World} {h:DH} {ρ':List AN},RI KK P Γ N S.h ρ w G W h ρ' -> D9 L ρ ρ':=fun hR k p hk hp=>hR.kept k p (yM hk hL) hp
 rcases H6 with rfl | ⟨l0,rfl⟩
 ·have mk: ∀ {D:Nat} {G:Nat -> Prop} {W:World} {h:DH} {ρ':List AN},RI KK P Γ N S.h ρ w G W h ρ' -> W.heap[D]? =some (.deferred (some [])) -> w.heap.size<=D -> D8 B ({ target:=.collected D,args:=#[] }::a.defers) W:=fun {D G W h ρ'} hR hD Nl=>
   ⟨D,rfl,yO (b.le _ rfl) Nl,hD,fun d' Xp ht=>by have:=D8.lt m Xp ht;omega,Pz R.hr (FS hR) m⟩
  refine iU eB e2 q2 (fun b hb=>q4 b hb) (fun b hb=>(q3 b hb).2) Dp _ _ D1 da eX (fun l G i x W hx hI hl Ca=>bH R Dc q3 DR G i x W hx hI hl Ca) ?_ ?_
  ·rintro D G W ⟨h,ρ',h1,hR⟩ hD ue Nl;exact ⟨⟨S.fr,h⟩,ρ',N,Y,D4 h h1,⟨fin hR,OC hR⟩,Y.st y R.hr (fin hR) (FS hR) (kp hR),mk hR hD Nl,b.step R.hr (FS hR)⟩
  ·rintro D c G W ⟨e,he,h,ρ',h1,hR⟩ hD ue Nl;have hq:=No e h (by rw [he];rfl) h1;cases e with
   | ret=>cases he;exact wpIn_ret ⟨⟨S.fr,h⟩,ρ',N,Y,hq,⟨fin hR,OC hR⟩,Y.st y R.hr (fin hR) (FS hR) (kp hR),mk hR hD Nl,b.step R.hr (FS hR)⟩
   | exit id=>cases he;exact wpIn_exit ⟨⟨S.fr,h⟩,ρ',N,Y,hq,⟨fin hR,OC hR⟩,Y.st y R.hr (fin hR) (FS hR) (kp hR),mk hR hD Nl,b.step R.hr (FS hR)⟩
   | normal=>cases he
   | goto t=>cases he
   | panic c=>cases he
   | outgrown=>cases he
 ·refine iV eB e2 (b.rd l0 rfl) q2 (fun b hb=>q4 b hb) (fun b hb=>(q3 b hb).2) Dp _ _ D1 da eX (fun l G i x W hx hI hl Ca=>bH R Dc q3 DR G i x W hx hI hl Ca) ?_ ?_
  ·rintro G W ⟨h,ρ',h1,hR⟩;exact ⟨⟨S.fr,h⟩,ρ',N,Y,D4 h h1,⟨fin hR,OC hR⟩,Y.st y R.hr (fin hR) (FS hR) (kp hR),Pz R.hr (FS hR) m,b.step R.hr (FS hR)⟩
  ·rintro c G W ⟨e,he,h,ρ',h1,hR⟩;have hq:=No e h (by rw [he];rfl) h1;cases e with
   | ret=>cases he;exact wpIn_ret ⟨⟨S.fr,h⟩,ρ',N,Y,hq,⟨fin hR,OC hR⟩,Y.st y R.hr (fin hR) (FS hR) (kp hR),Pz R.hr (FS hR) m,b.step R.hr (FS hR)⟩
   | exit id=>cases he;exact wpIn_exit ⟨⟨S.fr,h⟩,ρ',N,Y,hq,⟨fin hR,OC hR⟩,Y.st y R.hr (fin hR) (FS hR) (kp hR),Pz R.hr (FS hR) m,b.step R.hr (FS hR)⟩
   | normal=>cases he
   | goto t=>cases he
   | panic c=>cases he
   | outgrown=>cases he
def EJ {α σ:Type} (f:α -> σ -> Option (σ×Nat)):List α -> σ -> Option (σ×Nat)
 | [],s=>some (s,0)
 | x::l,s=>(f x s).bind fun r=>bif r.2==0 then EJ f l r.1 else some r
def Bn {α σ:Type} (f:α -> σ -> Option σ):List α -> σ -> Option σ
 | [],s=>some s
 | x::l,s=>(f x s).bind (Bn f l)
theorem fM {α σ:Type} (f:α -> σ -> Option σ): ∀ (l:List α) (s:σ),EJ (fun x s=>(f x s).map fun s'=>(s',0)) l s=(Bn f l s).map fun s'=>(s',0)
 | [],s=>rfl
 | x::l,s=>by
  simp only [EJ,Bn];cases f x s with
  | none=>rfl
  | some s'=>exact fM f l s'
def Cg (L:Nat) (ex:List Exit) (c:Nat) (h':DH) (e:Exit) (S:St):Prop:=(Exit.normal::ex)[c]? =some e/\ ∃ S3,BT L S S3/\ S3.h=h'
def F9 (P:Program) (Γ:BB) (F:Fence) (B:Option Nat) (L:Nat) (N:Ba P Γ L) (Q:Exit -> St -> Prop) (assign body:Code) (S:St):Prop:=
 Tr P Γ F B L N assign S (Oi (fun S' Y'=>Y'=N/\ ∀ N2:Ba P Γ L,BV P Γ F B L N2 Q [.code body] S') (fun _ _ _=>False))
theorem F9.go {F:Fence} {B:Option Nat} {L:Nat} {N:Ba P Γ L} {Q:Exit -> St -> Prop} (hF:Dg F P) (hm:P.follows .mixedOrders=true) {assign body:Code} {S:St} (A6:Bb) (n:Nat) (o:Bt) (live σ:List Nat) (fr:List DV) (h':DH) (vs:List Prop)
 (h:(Bx P Γ A6 n [.code assign] S o).map (Pi live σ L)=some (.at [],fr,h',vs,[],[],true)) (hv:Be vs) (hk: ∀ N2:Ba P Γ L,BV P Γ F B L N2 Q [.code body] ⟨fr,h'⟩):F9 P Γ F B L N Q assign body S:=by
 obtain ⟨S',_,h1,hs⟩:=nv h;have T:=Et (F:=F) (B:=B) (L:=L) (Y:=N) (Q:=fun e S2 Y2=>e= .normal/\ Y2=N/\ ∀ N2:Ba P Γ L,BV P Γ F B L N2 Q [.code body] S2) hF hm n [.code assign] S o _ _ _ _ h1 hv ⟨rfl,rfl,fun N2=>BV.le hs rfl (hk N2)⟩;refine Tr.mono (show Tr P Γ F B L N assign S _ from T) fun e S2 Y2 hq=>?_
 cases e with
 | normal=>exact hq.2
 | ret=>exact absurd hq.1 (by simp)
 | exit id=>exact absurd hq.1 (by simp)
 | goto t=>exact absurd hq.1 (by simp)
 | panic c=>exact absurd hq.1 (by simp)
 | outgrown=>exact absurd hq.1 (by simp)
theorem BV.rangeFold {F:Fence} (H6:F=Fence.wide∨∃ l,F=Fence.wide.inRound l) {B L:Nat} {Y:Ba P Γ L} {Q:QY P Γ L} {S:St} {g:Operand} {ps:Array Tmp} {assign body:Code} {k:List KI} {kk:Nat} {α σ:Type} (ex:List Exit) (It:(ex.all fun e=>(Jy e).isSome)=true) (enc:α -> Array Value) (l:List α) (H:σ -> DH) (f:α -> σ -> Option (σ×Nat)) {s0:σ} {rE:σ×Nat} (hf:EJ f l s0=some rE)
 (hg:Ac S.fr g= .it kk) (hk:S.h[kk]? =some (some (.iter (l.map enc)))) (Dp: ∀ x,(enc x).size=ps.size) {K:Nat} (hL:L<=K) (Dc:S.fr.all (GF K)=true) (h0:S.h.set kk none=H s0)
 (DR: ∀ (l B:Nat) (N:Ba P Γ K) (x:α) (s:σ) (r:σ×Nat),f x s=some r -> F9 P Γ (Fence.wide.inRound l) (some B) K N (Cg K ex r.2 (H r.1)) assign body ⟨JL S.fr ps.toList (enc x).toList,H s⟩)
 (D4: ∀ e,(Exit.normal::ex)[rE.2]? =some e -> DT P Γ F (some B) L Q k e ⟨S.fr,H rE.1⟩ Y):Az P Γ F (some B) L Y Q (.code (.rangeFunc g ps assign body)::k) S:=by
 refine Tr.range (Q:=DT P Γ F (some B) L Q k) (KK:=K) H6 (fun i h=>∃ s,EJ f (l.drop i) s=some rE/\ h=H s) (fun e h=>(Exit.normal::ex)[rE.2]? =some e/\ h=H rE.1) hg hk (fun x hx=>?_) hL Dc ⟨s0,hf,h0⟩ ?_ ?_ ?_
 ·obtain ⟨y,_,rfl⟩:=zN.1 hx;exact Dp y
 ·rintro l' B' N' i x h hx ⟨s,hs,rfl⟩;rw [ye] at hx;cases hy:l[i]? with
  | none=>rw [hy] at hx;cases hx
  | some y=>
   rw [hy] at hx;cases hx;have AU:=(yI.1 hy).1
   have hd:l.drop i=y::l.drop (i+1):=by
    rw [ym AU]
    congr 1
    exact (yI.1 hy).2
   rw [hd] at hs;obtain ⟨r,h1,h2⟩:=Yf hs;have T:=DR l' B' N' y s r h1
   have fin: ∀ {e:Exit} {S2:St},Cg K ex r.2 (H r.1) e S2 -> Y6 K (fun h=>∃ s,EJ f (l.drop (i+1)) s=some rE/\ h=H s) (fun e h=>(Exit.normal::ex)[rE.2]? =some e/\ h=H rE.1) e S2:=by
    rintro e S2 ⟨r1,S3,r2,r3⟩;refine ⟨S3,r2,?_⟩;cases hc:r.2 with
    | zero=>
     rw [hc] at r1 h2;cases r1;exact .inl ⟨rfl,r.1,h2,r3⟩
    | succ c=>
     rw [hc] at r1 h2;cases h2;have:e∈ex:=zF (i:=c) r1;exact .inr ⟨yJ.1 It e this,by rw [hc];exact r1,r3⟩
   refine Tr.mono T fun e S2 Y2 hq=>?_
   cases e with
   | normal=>exact ⟨hq.1,fun N2=>Tr.mono (show Tr P Γ (Fence.wide.inRound l') (some B') K N2 body S2 (stay N2 (Cg K ex r.2 (H r.1))) from hq.2 N2) fun e S3 Y3 h3=>⟨h3.1,fin h3.2⟩⟩
   | ret=>exact hq.elim
   | exit id=>exact hq.elim
   | goto t=>exact hq.elim
   | panic c=>exact hq.elim
   | outgrown=>exact hq.elim
 ·rintro h ⟨s,hs,rfl⟩;rw [zE,List.drop_length] at hs;cases hs;exact D4 .normal rfl
 ·rintro e h he ⟨h1,rfl⟩;exact D4 e h1
theorem OH {F:Fence} {B:Option Nat} {L:Nat} {Y:Ba P Γ L} {Q:QY P Γ L} {S:St} {id:Nat} (h:Q (.exit id) S Y): ∀ (k:List KI),Hn id k=none -> DT P Γ F B L Q k (.exit id) S Y
 | [],_=>h
 | .blk i::k,hp=>by
  unfold Hn at hp;split at hp
  ·cases hp
  ·rename_i e
   show (if id=i then _ else _)
   rw [yK e];exact OH h k hp
 | .code c::k,hp=>OH (k:=k) h hp
 | .lend J::k,hp=>OH (k:=k) h hp
 | .scp::k,hp=>OH (k:=k) h hp
 | .loopN m b::k,hp=>OH (k:=k) h hp
end
def JR (t:Nat):Code -> Option (Array Tmp×Code×Code)
 | .rangeFunc (.tmp t') ps a b=>if t'=t then some (ps,a,b) else JR t b
 | .seq a b=>match JR t a with
  | some r=>some r
  | none=>JR t b
 | .cond _ a b=>match JR t a with
  | some r=>some r
  | none=>JR t b
 | .block _ c=>JR t c
 | .loop c=>JR t c
 | .scope c=>JR t c
 | _=>none
def bB (f:Func) (t:Nat):Array Tmp×Code×Code:=match f.body with
 | some c=>(JR t c).getD (#[],.skip,.skip)
 | none=>(#[],.skip,.skip)
def SQ (f:Func) (t:Nat):Code:=(bB f t).2.2
def mi (f:Func) (t:Nat):Code:=(bB f t).2.1
def AX (f:Func):Code:=f.body.getD .skip
def bU (id:Nat) (k:List KI):List KI:=(Hn id k).getD []
theorem DT.exitTo {P:Program} {Γ:BB} {F:Fence} {B:Option Nat} {L:Nat} {Y:Ba P Γ L} {Q:QY P Γ L} {id:Nat} {k:List KI} {S:St} (h:(Hn id k).isSome=true) (hk:Az P Γ F B L Y Q (bU id k) S):DT P Γ F B L Q k (.exit id) S Y:=by
 unfold bU at hk;cases hp:Hn id k with
 | none=>rw [hp] at h;cases h
 | some k'=>rw [hp] at hk;exact Lq hp hk
def Ll:List KI -> Option (Operand×Array Tmp×Code×Code×List KI)
 | .code (.rangeFunc g ps a b)::k=>some (g,ps,a,b,k)
 | _=>none
theorem BV.rangeAt {P:Program} {Γ:BB} {F:Fence} (H6:F=Fence.wide∨∃ l,F=Fence.wide.inRound l) {B L:Nat} {Y:Ba P Γ L} {Q:QY P Γ L} {fr:List DV} {h:DH} {K:List KI} (ex:List Exit) (It:(ex.all fun e=>(Jy e).isSome)=true) (g:Operand) (ps:Array Tmp) (a b:Code) (k2:List KI) {kk:Nat} {α σ:Type} (enc:α -> Array Value) (l:List α) (H:σ -> DH) (FR:α -> List DV) (f:α -> σ -> Option (σ×Nat)) {s0:σ} {rE:σ×Nat} (hf:EJ f l s0=some rE)
 (hK:Ll K=some (g,ps,a,b,k2)) (hg:Ac fr g= .it kk) (hk:h[kk]? =some (some (.iter (l.map enc)))) (Dp: ∀ x,(enc x).size=ps.size) (L':Nat) (hL:Nat.ble L L'=true) (F6:fr.all (GF L')=true) (h0:h.set kk none=H s0) (Dc:(fun x=>JL fr ps.toList (enc x).toList)=FR)
 (DR: ∀ (l B:Nat) (N:Ba P Γ L') (x:α) (s:σ) (r:σ×Nat),f x s=some r -> F9 P Γ (Fence.wide.inRound l) (some B) L' N (Cg L' ex r.2 (H r.1)) a b ⟨FR x,H s⟩)
 (D4: ∀ e,(Exit.normal::ex)[rE.2]? =some e -> DT P Γ F (some B) L Q k2 e ⟨fr,H rE.1⟩ Y):Az P Γ F (some B) L Y Q K ⟨fr,h⟩:=by
 unfold Ll at hK;split at hK
 ·cases hK;subst Dc;exact BV.rangeFold H6 ex It enc l H f hf hg hk Dp (zX hL) F6 h0 DR D4
 ·cases hK
theorem BV.rangeAt0 {P:Program} {Γ:BB} {F:Fence} (H6:F=Fence.wide∨∃ l,F=Fence.wide.inRound l) {B L:Nat} {Y:Ba P Γ L} {Q:QY P Γ L} {fr:List DV} {h:DH} {K:List KI} (g:Operand) (ps:Array Tmp) (a b:Code) (k2:List KI) {kk:Nat} {α σ:Type} (enc:α -> Array Value) (l:List α) (H:σ -> DH) (FR:α -> List DV) (f:α -> σ -> Option σ) {s0 sE:σ} (hf:Bn f l s0=some sE)
 (hK:Ll K=some (g,ps,a,b,k2)) (hg:Ac fr g= .it kk) (hk:h[kk]? =some (some (.iter (l.map enc)))) (Dp: ∀ x,(enc x).size=ps.size) (L':Nat) (hL:Nat.ble L L'=true) (F6:fr.all (GF L')=true) (h0:h.set kk none=H s0) (Dc:(fun x=>JL fr ps.toList (enc x).toList)=FR)
 (DR: ∀ (l B:Nat) (N:Ba P Γ L') (x:α) (s r:σ),f x s=some r -> F9 P Γ (Fence.wide.inRound l) (some B) L' N (Cg L' [] 0 (H r)) a b ⟨FR x,H s⟩)
 (D4:Az P Γ F (some B) L Y Q k2 ⟨fr,H sE⟩):Az P Γ F (some B) L Y Q K ⟨fr,h⟩:=by
 refine BV.rangeAt H6 [] rfl g ps a b k2 enc l H FR (fun x s=>(f x s).map fun s'=>(s',0)) (rE:=(sE,0)) (by rw [fM,hf];rfl) hK hg hk Dp L' hL F6 h0 Dc (fun l' B' N' x s r hr=>?_) (fun e he=>?_)
 ·cases hx:f x s with
  | none=>rw [hx] at hr;cases hr
  | some s'=>
   rw [hx] at hr;cases hr;exact DR l' B' N' x s s' hx
 ·cases he;exact D4
def K7 (t:Nat):List Nat -> Code -> List KI -> Option (List KI)
 | ms,.seq a b,k=>match K7 t ms a (.code b::k) with
  | some r=>some r
  | none=>K7 t ms b k
 | ms,.cond _ a b,k=>match K7 t ms a k with
  | some r=>some r
  | none=>K7 t ms b k
 | ms,.block i c,k=>K7 t ms c (.blk i::k)
 | ms,.scope c,k=>K7 t ms c (.scp::k)
 | m::ms,.loop b,k=>K7 t ms b (.loopN m b::k)
 | _,.rangeFunc (.tmp t') ps a b,k=>if t'=t then some (.code (.rangeFunc (.tmp t') ps a b)::k) else none
 | _,_,_=>none
def FK (c:Code) (t:Nat) (ms:List Nat):List KI:=(K7 t ms c []).getD []
def BA (c:Code) (id:Nat) (ms:List Nat):List KI:=(K8 id ms c []).getD []
def CP (c:Code) (id:Nat) (ms:List Nat):List KI:=(K9 id ms c []).getD []
end Go.Proofs.YtgkhhfnhacibcaaGreatDoor
namespace Go.Proofs.YtgkhhfnhacibcaaGreatDoor
open Go.RowKit
abbrev L1 (l:List DV):Nat -> DV:=fun j=>l.getD j .any
abbrev Am {α:Type} [Inhabited α] (c:α -> List DV) (l:List α):Nat -> Nat -> DV:=fun i j=>(c (l.getD i default)).getD j .any
abbrev I0 {α:Type} (c:α -> List DV):α -> Nat -> DV:=fun x j=>(c x).getD j .any
def AF (c:AB):List DV:=[.int .i64 c.kind,.ints c.cells,.int .i64 c.set,.int .i64 c.other,.int .i64 c.lo,.int .i64 c.hi,.ints c.runs,.int .i64 c.rule,.int .i64 c.spot]
def Ar (x:List Int):List DV:=[.ints x]
def OS (x:List Bool):List DV:=[.bools x]
def DB (x:Int×Int):List DV:=[.int .i64 x.1,.int .i64 x.2]
def AD (q:AA):List DV:=[.int .i64 q.cells,.int .i64 q.symbols,.ints q.values,.sl 1 q.nbrs.length (Am Ar q.nbrs),.sl 9 q.cons.length (Am AF q.cons)]
end Go.Proofs.YtgkhhfnhacibcaaGreatDoor
namespace Go.Proofs.YtgkhhfnhacibcaaGreatDoor
abbrev zJ:=@List.drop_eq_nil_of_le
end Go.Proofs.YtgkhhfnhacibcaaGreatDoor
namespace Go.Proofs.YtgkhhfnhacibcaaGreatDoor
open Go.RowKit
structure CW (P:Program) (Γ:BB) where
 l:Nat
 Rd:Nat -> Prop
 encs:List (Array Value)
 J:Nat -> (Nat -> Prop) -> World -> Prop
 Jx:(Nat -> Prop) -> World -> Prop
 hJ: ∀ i,Eg (J i)
 hJx:Eg Jx
 lo: ∀ b,b<Γ.ng -> Rd b
 hy: ∀ i args G W1,encs[i]? =some args -> J i G W1 -> YieldAt Fence.wide 0 P l args W1 fun e W'=>
  AP (fun k=>¬ (G k∨Rd k)) W1 W'/\ ((e= .returned (.bool true)/\ J (i+1) G W')∨(e= .returned (.bool false)/\ Jx G W'))
def dG (P:Program) (Γ:BB) (L:Nat) (Rd:Nat -> Prop) (J:(Nat -> Prop) -> World -> Prop) (hJ:Eg J):Ba P Γ L where
 I:=fun N h ρ w=>∃ G,J G w/\ (∀ b,G b -> b<w.heap.size)/\ (∀ b,MO h ρ b -> G b)/\ (∀ b,N b↔(b<w.heap.size/\ Γ.ng<=b/\ ¬ G b/\ ¬ Rd b))
 st:=by
  rintro N h ρ w h' ρ' w' ⟨G,h1,h2,h3,h4⟩ H H' st _;have hs:=st.upd.size;refine ⟨fun b=>G b∨(w.heap.size<=b/\ b<w'.heap.size),hJ G _ w w' h1 (st.upd.mono fun b _ hb=>h3 b hb) (fun k hk=>hk.imp id fun h=>h.1) (fun k hk=>hk.elim (fun h=>yM (h2 k h) hs) fun h=>h.2),fun b hb=>hb.elim (fun h=>yM (h2 b h) hs) fun h=>h.2,fun b hb=>?_,fun b=>?_⟩
  ·rcases st.grow b hb with h | h
   ·exact .inl (h3 b h)
   ·obtain ⟨k,o,p,q1,q2,q3⟩:=hb;obtain ⟨_,_,c,t,z,e⟩:=H'.cel k o p b q1 q2 q3;exact .inr ⟨h,(xz.1 e).1⟩
  ·rw [h4];constructor
   ·rintro ⟨a1,a2,a3,a4⟩;exact ⟨yM a1 hs,a2,fun hx=>hx.elim a3 fun hx=>by omega,a4⟩
   ·rintro ⟨a1,a2,a3,a4⟩;have: ¬ (w.heap.size<=b):=fun hx=>a3 (.inr ⟨hx,a1⟩)
    exact ⟨by omega,a2,fun hx=>a3 (.inl hx),a4⟩
section
variable {P:Program} {Γ:BB}
def CW.Y (C:CW P Γ) (L i:Nat):Ba P Γ L:=dG P Γ L C.Rd (C.J i) (C.hJ i)
def CW.X (C:CW P Γ) (L:Nat):Ba P Γ L:=dG P Γ L C.Rd C.Jx C.hJx
def CW.Q (C:CW P Γ) (L:Nat):QY P Γ L:=fun e _ Y=>(e= .normal∨e= .ret)/\ (Y=C.Y L C.encs.length∨Y=C.X L)
def YK:DV -> Option Value
 | .int k n=>some (.int k n)
 | .bool b=>some (.bool b)
 | _=>none
theorem vh {M:Nat -> Prop} {w:World} {ρ:List AN} {d:DV} {v u:Value} (h:YK d=some v) (hr:AO M w d ρ u):u=v:=by
 cases d <;> simp only [YK,zM] at h
 all_goals first | (subst h;exact hr) | (cases h)
def TC:List DV -> Option (List Value)
 | []=>some []
 | d::ds=>match YK d,TC ds with
  | some v,some vs=>some (v::vs)
  | _,_=>none
theorem cQ {M:Nat -> Prop} {w:World} {ρ:List AN} {f:Operand -> Value} {g:Operand -> DV} (hr: ∀ x,AO M w (g x) ρ (f x)): ∀ {l:List Operand} {vs:List Value},TC (l.map g)=some vs -> l.map f=vs
 | [],vs,h=>by cases h;rfl
 | x::l,vs,h=>by
  simp only [zd,TC] at h;split at h
  ·rename_i v BW h1 h2;cases h;rw [zd,vh h1 (hr x),cQ hr h2]
  ·cases h
def LR (P:Program) (Γ:BB) (ops:Array Oper) (p:Nat) (S:St) (Aq:Bt):Option (List Value×Nat×St×St×List Prop):=match Ec P Γ ops (ops.toList.take p) S Aq with
 | none=>none
 | some (S1,vs,Lu)=>match ops[p]? with
  | none=>none
  | some o=>match KD ops S1 o with
   | some true=>match o.op with
    | .call c=>match c.callee with
     | .value f=>match Ac S1.fr f with
      | .yl l=>match TC (c.args.toList.map (Ac S1.fr)) with
       | none=>none
       | some xs=>match Ec P Γ ops (ops.toList.drop (p+1)) ⟨Dj S1.fr o.dst (.bool true),S1.h⟩ Lu with
        | none=>none
        | some (ST,vT,Gh)=>match Ec P Γ ops (ops.toList.drop (p+1)) ⟨Dj S1.fr o.dst (.bool false),S1.h⟩ Gh with
         | none=>none
         | some (SF,vF,_)=>some (xs,l,ST,SF,vs++(vT++vF))
      | _=>none
     | _=>none
    | _=>none
   | _=>none
end
section
variable {P:Program} {Γ:BB} {N:Nat -> Prop} {S:St} {ρ:List AN} {a:Act} {w:World} {F:Fence}
theorem X7 (hF:Dg F P) {ops:Array Oper} (BD:Dl ops=true) {Q:Exit -> Act -> World -> Prop} {EW:List Oper}: ∀ (l:List Oper) (_: ∀ o∈l,o∈ops) {S:St} {ρ:List AN} {a:Act} {w:World} {Aq:Bt} {S':St} {vs:List Prop} {CE:Bt},
 Ad P Γ N S ρ a w -> Ec P Γ ops l S Aq=some (S',vs,CE) -> Be vs ->
 (∀ ρ' a' w',Ad P Γ N S' ρ' a' w' -> Cn S.h ρ w S'.h ρ' w' -> a'.defers=a.defers -> wpListIn F 0 P ops Q EW a' w') -> wpListIn F 0 P ops Q (l++EW) a w
 | [],_,S,ρ,a,w,Aq,S',vs,CE,R,h,_,hQ=>by
  cases h;exact hQ ρ a w R (Cn.refl _ _ _) rfl
 | o::rest,hl,S,ρ,a,w,Aq,S',vs,CE,R,h,hv,hQ=>by
  have hd: ∀ c,o.op≠.defer c:=by
   obtain ⟨j,hj,e⟩:=Array.getElem_of_mem (hl o (by simp));exact Hr BD (j:=j) (by rw [yh hj,e])
  have EY: ∀ o∈rest,o∈ops:=fun o ho=>hl o (by simp [ho])
  have Cw: ∀ v,(a.put o.dst v).defers=a.defers:=fun v=>by cases ho:o.dst <;> simp [Act.put]
  simp only [Ec] at h;rw [List.cons_append];unfold wpListIn;split at h
  ·split at h
   ·cases h
   ·rename_i S1 Cb ext1 Lu h1;split at h
    ·cases h
    ·rename_i S2 E5 Gh h2;cases h;obtain ⟨B5,B8⟩:=Cf.1 hv;exact Yn hF R hd h1 B5 fun ρ' a' w' R' st Dd _=>X7 hF BD rest EY R' h2 B8 fun ρ'' FL B7 FM DL Gs=>hQ ρ'' FL B7 FM (st.trans DL) (Gs.trans Dd)
  ·split at h
   ·cases h
   ·rename_i S1 Cb RD h1;split at h
    ·cases h
    ·rename_i S2 E5 Gh h2;cases h;obtain ⟨B5,B8⟩:=Cf.1 hv;obtain ⟨e1,hs⟩:=Sc R h1 B5
     have go: ∀ v,Ad P Γ N S1 ρ (a.put o.dst v) w -> wpListIn F 0 P ops Q (rest++EW) (a.put o.dst v) w:=fun v R'=>
      X7 hF BD rest EY R' h2 B8 fun ρ'' FL B7 FM DL Gs=>hQ ρ'' FL B7 FM (by rw [←e1];exact DL) (Gs.trans (Cw v))
     rcases hs with ⟨hw,v,g1,g2⟩ | ⟨hw,g2⟩
     ·rw [xw hw];refine ⟨fun f _=>hF.fn f,?_⟩;rw [zAP _ _ _ hd,g1 w (Keep.ofExt (At.refl w))];exact go v g2
     ·rw [yK (by rw [hw];exact zo)];exact ⟨fun f _=>hF.fn f,go undef g2⟩
theorem mD {l:Nat} {ρ':Operand -> Value} {o:Oper} {c:Call} {f:Operand} {vs:List Value} (ho:o.op= .call c) (hc:c.callee= .value f) (hf:ρ' f= .func (.yield l) #[] #[]) (hv:c.args.toList.map ρ'=vs):(execOp ρ' o).run P w=(Instr.yield l vs.toArray).run P w:=by
 unfold execOp;rw [ho]
 show ((resolve ρ' c o.type)>>=fun d=>invoke d.target d.args).run P w=_
 unfold resolve;rw [hc];simp only [Deferred.ofValue,hf]
 have e: #[]++Array.map ρ' c.args=vs.toArray:=by
  rw [←hv];apply Array.ext';simp
 have he:((pure { target:=.fn (.yield l) #[],args:=#[]++Array.map ρ' c.args }:Sem Deferred)>>=fun d=>invoke d.target d.args).run P w=(Instr.yield l (#[]++Array.map ρ' c.args)).run P w:=rfl;rw [he,e]
theorem Tr.yield {L:Nat} {C:CW P Γ} {i:Nat} {Q:QY P Γ L} (hF:Dg Fence.wide P) {id:Nat} {ops:Array Oper} {p:Nat} {Aq:Bt} {x:Array Value} {ST SF:St} {vs:List Prop} (BD:Dl ops=true)
 (h:LR P Γ ops p S Aq=some (x.toList,C.l,ST,SF,vs)) (hv:Be vs) (hx:C.encs[i]? =some x) (hT:Q .normal ST (C.Y L (i+1))) (hE:Q .normal SF (C.X L)):Tr P Γ Fence.wide none L (C.Y L i) (.region id ops false) S Q:=fun N ρ a w R y m b=>by
 unfold LR at h;split at h
 ·cases h
 rename_i S1 Cb Lu h1;split at h
 ·cases h
 rename_i o ho;split at h
 ·rename_i hw;split at h
  ·rename_i c tJ;split at h
   ·rename_i f hc;split at h
    ·rename_i l hl;split at h
     ·cases h
     rename_i xs W7;split at h
     ·cases h
     rename_i ST' vT Gh h2;split at h
     ·cases h
     rename_i SF' vF Ja h3;cases h;obtain ⟨B5,Do⟩:=Cf.1 hv;obtain ⟨rF,rG⟩:=Cf.1 Do;have hp:p<ops.toList.length:=by simpa using (xz.1 ho).1
     have rP:ops.toList=ops.toList.take p++o::ops.toList.drop (p+1):=by
      have e:ops.toList[p]=o:=by
       have:=(xz.1 ho).2;simpa using this
      rw [←e,←ym hp,List.take_append_drop]
     have DS: ∀ o'∈ops.toList,o'∈ops:=fun o' h=>by simpa using h
     have hd: ∀ c,o.op≠.defer c:=Hr BD ho;refine wpIn_region_list ?_;rw [rP];refine X7 hF BD _ (fun o' Ip=>DS o' (List.mem_of_mem_take Ip)) R h1 B5 fun ρ1 a1 w1 R1 NF uG=>?_
     obtain ⟨G,y1,y2,y3,y4⟩:=(C.Y L i).st y R.hr R1.hr NF.st (fun k p _ hp=>NF.pl k p hp);obtain ⟨fn,tmps,gq,body,hy,hR⟩:=C.hy i x G w1 hx y1;unfold wpListIn;rw [xw (JF R1 hw)]
     have tv:a1.eval f= .func (.yield C.l) #[] #[]:=by
      have hr:=Bh R1 f;rw [hl] at hr;exact hr
     have uQ:c.args.toList.map a1.eval=x.toList:=cQ (f:=a1.eval) (g:=Ac S1.fr) (fun x=>Bh R1 x) W7;refine ⟨fun f _=>hF.fn f,?_⟩;rw [zAP _ _ _ hd,mD tJ hc tv uQ,hy];refine ⟨fun hx=>(by cases hx),hR.mono ?_⟩;have Ap:a1.defers= []:=uG.trans m;rintro e W' ⟨hu,hj⟩;have hs:=hu.size;have Bl:AP N w1 W':=hu.mono fun bb AU hn=>(y4 bb).2 ⟨AU,zA2 fun hx=>hn (.inr (C.lo bb hx)),fun hx=>hn (.inl hx),fun hx=>hn (.inr hx)⟩
     have eh: ∀ bb,N bb -> N bb/\ Γ.ng<=bb:=fun bb hb=>⟨hb,((y4 bb).1 hb).2.1⟩
     have eV: ∀ bb,(bb<W'.heap.size/\ Γ.ng<=bb/\ ¬ G bb/\ ¬ C.Rd bb) -> N bb∨w1.heap.size<=bb:=fun bb ⟨q1,q2,q3,q4⟩=>by
      rcases zb bb w1.heap.size with h | h
      ·exact .inl ((y4 bb).2 ⟨h,q2,q3,q4⟩)
      ·exact .inr h
     have H':BY P Γ (fun bb=>bb<W'.heap.size/\ Γ.ng<=bb/\ ¬ G bb/\ ¬ C.Rd bb) S1.h ρ1 W':=R1.hr.foreign Bl eh eV fun bb ⟨q1,q2,_⟩=>⟨q1,q2⟩
     have DG:Ad P Γ (fun bb=>bb<W'.heap.size/\ Γ.ng<=bb/\ ¬ G bb/\ ¬ C.Rd bb) S1 ρ1 a1 W':=⟨H',R1.fr.out (Bc.foreign (Γ:=Γ) Bl eh eV)⟩;have Cw: ∀ v,(a1.put o.dst v).defers=a1.defers:=fun v=>by cases ho:o.dst <;> simp [Act.put]
     rcases hj with ⟨rfl,hj⟩ | ⟨rfl,hj⟩
     ·have R':=Hh DG o.dst (d:=.bool true) (v:=.bool true) rfl;refine K4 hF BD _ (fun o' Ip=>DS o' (List.mem_of_mem_drop Ip)) R' h2 rF fun ρ2 a2 w2 R2 Ox Xo=>?_
      refine ⟨ST,ρ2,_,C.Y L (i+1),hT,R2,(C.Y L (i+1)).st ⟨G,hj,fun bb hb=>yM (y2 bb hb) hs,y3,fun bb=>Iff.rfl⟩ R'.hr R2.hr Ox.st (fun k p _ hp=>Ox.pl k p hp),?_,Bd.none⟩
      show a2.defers= []
      rw [Xo,Cw];exact Ap
     ·have R':=Hh DG o.dst (d:=.bool false) (v:=.bool false) rfl;refine K4 hF BD _ (fun o' Ip=>DS o' (List.mem_of_mem_drop Ip)) R' h3 rG fun ρ2 a2 w2 R2 Ox Xo=>?_
      refine ⟨SF,ρ2,_,C.X L,hE,R2,(C.X L).st ⟨G,hj,fun bb hb=>yM (y2 bb hb) hs,y3,fun bb=>Iff.rfl⟩ R'.hr R2.hr Ox.st (fun k p _ hp=>Ox.pl k p hp),?_,Bd.none⟩
      show a2.defers= []
      rw [Xo,Cw];exact Ap
    ·cases h
   ·cases h
  ·cases h
 ·cases h
end
theorem fX {P:Program} {f:Nat} {fn:Func} (hf:P.funcs[f]? =some fn) (hb:fn.body.isSome=true) (hn:(fn.name== "runtime.NumGoroutine")=false) (args:Array Value) (W:World):(callFunc f args).run P W= .ok (.enter f args) W:=by
 have To: ¬ fn.name= "runtime.NumGoroutine" :=by simpa using hn
 have Cd: ¬ fn.body=none:=by intro e;rw [e] at hb;cases hb
 simp [callFunc,go_sem,hf,To,Cd]
theorem ES.iterN {P:Program} {Γ:BB} {f gf m:Nat} {fn:Func} {ds:List DV} {c:Nat -> DV} {h0:DH} {encs:List (Array Value)} (Eb:ES P Γ f ds [] (.fn gf m c) h0 true) (FH:ds.all Gj=true)
 (hf:P.funcs[gf]? =some fn) (hb:fn.body.isSome=true) (hn:(fn.name== "runtime.NumGoroutine")=false) (Ti:fn.results= #[])
 (body: ∀ C:CW P Γ,C.encs=encs -> Az P Γ Fence.wide none h0.length (C.Y h0.length 0) (C.Q h0.length) [.code (AX fn)] ⟨.yl C.l::(List.range m).map c++List.replicate (fn.ntmps-(m+1)) .any,h0⟩) (h:DH):ES P Γ f ds h (.it h.length) (h++[some (.iter encs)]) true:=by
 refine ⟨Eb.1,fun N ρ w args HR Ce=>?_⟩;refine (Eb.2 (MS N h ρ) [] w args (Nr (fun b hb=>HR.lt2 hb) HR.gi) ⟨Ce.1,fun i hi=>?_⟩).mono ?_
 ·have hx:=NW (yJ.1 FH (ds.getD i .any) (by simp [hi]));exact AO.out _ (DZ (fun b hb=>M3.1 hb) []) (hx _ _ _ _ (Ce.2 i hi))
 ·rintro e w' ⟨v,rfl,⟨⟨ρ',g1,g2,g3,g4⟩,g5⟩⟩;have hE:=g5 rfl;obtain ⟨lb,hv,hl,Ts⟩:=g2;have HJ: ∀ b,MO h0 ρ' b -> w.heap.size<=b:=fun b hb=>(g3.grow b hb).resolve_left fun ⟨k,o',p',q1,_⟩=>by simp at q1
  have Cm: ∀ b,MO h0 ρ' b -> Γ.ng<=b/\ ¬ MS N h ρ b/\ C7 w' b:=fun b ⟨k,o,q,q1,q2,q3⟩=>g1.cel k o q b q1 q2 q3
  have GN:Γ.ng<=w.heap.size:=Γ.lo _ HR.gi;have A9:=hE.size
  have AU: ∀ b,MO h0 ρ' b -> b<w'.heap.size:=fun b hb=>by
   obtain ⟨_,_,c,t,z,h⟩:=Cm b hb;exact (xz.1 h).1
  have lo: ∀ b,b<Γ.ng -> b<w'.heap.size/\ ¬ MS (MS N h ρ) h0 ρ' b:=fun b hb=>⟨yM hb (yO GN A9),fun hx=>by
   rcases hx with hx | hx
   ·have:=(HR.lt2 hx).2;omega
   ·have:=(Cm b hx).1;omega⟩
  let p:AN:=⟨0,0,0,v,fun b=>MO h0 ρ' b⟩
  have hp: ∀ b,p.foot b -> w.heap.size<=b/\ C7 w' b:=fun b hb=>⟨HJ b hb,(Cm b hb).2.2⟩
  refine ⟨v,rfl,⟨⟨ρ++[p],HR.snoc hE hp ?_,⟨p,by rw [←HR.len];simp,rfl⟩,BN.snoc HR hE fun b hb=>(hp b hb).1,fun _ _ h=>D5 h⟩,g5⟩⟩;refine ⟨gf,lb,fun b=>b<w'.heap.size/\ ¬ MS (MS N h ρ) h0 ρ' b,⟨hv,fun args W=>fX hf hb hn args W⟩,?_,fun b hb=>⟨fun hm=>?_,hb.1⟩,AU⟩
  ·intro l J Jx G W hJ hJx hU hG X3 hY uk
   let C:CW P Γ:=⟨l,fun b=>b<w'.heap.size/\ ¬ MS (MS N h ρ) h0 ρ' b,encs,J,Jx,hJ,hJx,lo,hY⟩
   have T:=body C rfl;cases hc:fn.body with
   | none=>rw [hc] at hb;cases hb
   | some code=>
   have eb:AX fn=code:=by unfold AX;rw [hc];rfl
   rw [eb] at T;refine callsIn_of_wp hf hc trivial ?_ rfl
   have eU: ∀ b,(b<W.heap.size/\ Γ.ng<=b/\ ¬ G b/\ ¬ (b<w'.heap.size/\ ¬ MS (MS N h ρ) h0 ρ' b)) -> MS N h ρ b∨w'.heap.size<=b:=fun b ⟨_,_,q3,q4⟩=>by
    rcases zb b w'.heap.size with hx | hx
    ·by_cases hm:MS (MS N h ρ) h0 ρ' b
     ·rcases hm with hm | hm
      ·exact .inl hm
      ·exact absurd (hG b hm) q3
     ·exact absurd ⟨hx,hm⟩ q4
    ·exact .inr hx
   have hu:AP (fun b=>MS N h ρ b) w' W:=hU.mono fun b AU hx=>by
    by_cases hm:MS (MS N h ρ) h0 ρ' b
    ·rcases hm with hm | hm
     ·exact hm
     ·exact absurd (.inl hm) hx
    ·exact absurd (.inr ⟨AU,hm⟩) hx
   have eY: ∀ b,MS N h ρ b -> MS N h ρ b/\ Γ.ng<=b:=fun b hb=>⟨hb,(HR.lt2 hb).2⟩
   have HW:BY P Γ (fun b=>b<W.heap.size/\ Γ.ng<=b/\ ¬ G b/\ ¬ (b<w'.heap.size/\ ¬ MS (MS N h ρ) h0 ρ' b)) h0 ρ' W:=g1.foreign hu eY eU fun b hb=>⟨hb.1,hb.2.1⟩
   have u0:B1 (MS (MS N h ρ) h0 ρ') w' ρ' ((List.range m).map c) lb:=⟨by simp [hl],fun j hj=>by
    have BX:j<m:=by simpa using hj
    obtain ⟨u,q1,q2⟩:=Ts j BX;have e1:((List.range m).map c).getD j .any=c j:=by simp [BX]
    have e2:lb.getD j undef=u:=by rw [yV,q1];rfl
    rw [e1,e2];exact q2⟩
   have u4:=u0.out (Bc.foreign (Γ:=Γ) hu eY eU)
   have fr:B1 (MS (fun b=>b<W.heap.size/\ Γ.ng<=b/\ ¬ G b/\ ¬ (b<w'.heap.size/\ ¬ MS (MS N h ρ) h0 ρ' b)) h0 ρ') W ρ' (.yl l::(List.range m).map c++List.replicate (fn.ntmps-(m+1)) .any) (#[.func (.yield l) #[] #[]]++lb++Array.replicate (fn.ntmps-(#[Value.func (.yield l) #[] #[]]++lb).size) undef):=by
    have e3:fn.ntmps-(#[Value.func (.yield l) #[] #[]]++lb).size=fn.ntmps-(m+1):=by simp [hl,Nat.add_comm]
    rw [e3];refine B1.append ?_ (B1.anys _ _ _ _);have:DV.yl l::(List.range m).map c= [DV.yl l]++(List.range m).map c:=rfl;rw [this]
    exact B1.append ⟨rfl,fun j hj=>by
     have:j=0:=by simpa using hj
     subst this;rfl⟩ u4
   refine zAC ((show Tr P Γ Fence.wide none h0.length (C.Y h0.length 0) code _ (DT P Γ Fence.wide none h0.length (C.Q h0.length) []) from T) _ ρ' _ W ⟨HW,fr⟩ ⟨G,uk,X3,fun b hb=>hG b hb,fun b=>Iff.rfl⟩ rfl Bd.none) ?_;rintro e a' W' ⟨S',ρ2,N',Y',q1,q2,q3,q4,q5⟩
   have fin:(Y'=C.Y h0.length C.encs.length∨Y'=C.X h0.length) -> (∃ G',J encs.length G' W')∨∃ G',Jx G' W':=by
    rintro (rfl | rfl)
    ·obtain ⟨G',k1,_⟩:=q3;exact .inl ⟨G',k1⟩
    ·obtain ⟨G',k1,_⟩:=q3;exact .inr ⟨G',k1⟩
   cases e with
   | normal=>exact bodyPost_end (results_none Ti _ _ _) q4 ⟨⟨_,rfl⟩,fin q1.2⟩
   | ret=>exact bodyPost_ret (results_none Ti _ _ _) q4 ⟨⟨_,rfl⟩,fin q1.2⟩
   | exit id=>exact absurd q1.1 (by simp)
   | goto t=>exact absurd q1.1 (by simp)
   | panic ch=>exact q1.elim
   | outgrown=>exact q1.elim
  ·rcases hm with hm | hm
   ·exact hb.2 (.inl (.inl hm))
   ·rcases MO.snoc HR hm with hm | hm
    ·exact hb.2 (.inl (.inr hm))
    ·exact hb.2 (.inr hm)
section
variable {P:Program} {Γ:BB}
def Lm:List KI -> Option (Array Oper×List KI)
 | .code (.region _ ops false)::k=>some (ops,k)
 | _=>none
def WE (live σ:List Nat) (L:Nat) (r:List Value×Nat×St×St×List Prop):List Value×Nat×List DV×DH×List DV×DH×List Prop×Bool:=
 (r.1,r.2.1,(Proofs.YtgkhhfnhacibcaaGreatDoor.comp live σ r.2.2.1).fr,(Proofs.YtgkhhfnhacibcaaGreatDoor.comp live σ r.2.2.1).h,(Proofs.YtgkhhfnhacibcaaGreatDoor.comp live σ r.2.2.2.1).fr,(Proofs.YtgkhhfnhacibcaaGreatDoor.comp live σ r.2.2.2.1).h,r.2.2.2.2,JK σ L r.2.2.1.h.length&&JK σ L r.2.2.2.1.h.length)
theorem Az.yieldAt {L:Nat} {C:CW P Γ} {i:Nat} {Q:QY P Γ L} {S:St} {K k:List KI} {ops:Array Oper} (hF:Dg Fence.wide P) (hK:Lm K=some (ops,k)) (BD:Dl ops=true) (p:Nat) (Aq:Bt) {x:Array Value} (live σ:List Nat) (OD:List DV) (hT:DH) (OE:List DV) (hE:DH) (vs:List Prop)
 (h:(LR P Γ ops p S Aq).map (WE live σ L)=some (x.toList,C.l,OD,hT,OE,hE,vs,true)) (hv:Be vs) (hx:C.encs[i]? =some x) (hc:Hs k=true) (Xe:Az P Γ Fence.wide none L (C.Y L (i+1)) Q k ⟨OD,hT⟩) (Xf:Az P Γ Fence.wide none L (C.X L) Q k ⟨OE,hE⟩):Az P Γ Fence.wide none L (C.Y L i) Q K S:=by
 unfold Lm at hK;split at hK
 ·rename_i id ny k';cases hK;cases hr:LR P Γ ops p S Aq with
  | none=>rw [hr] at h;cases h
  | some r=>
   obtain ⟨xs,l,ST,SF,Cb⟩:=r;rw [hr] at h;simp only [yj,WE,zM,zZ,yD] at h;obtain ⟨rfl,rfl,rfl,rfl,rfl,rfl,rfl,s1,s2⟩:=h;exact Tr.yield hF BD hr hv hx (BV.le (BT.comp live σ ST s1) hc Xe) (BV.le (BT.comp live σ SF s2) hc Xf)
 ·cases hK
theorem P0 {α β:Type} {o:Option α} {f:α -> β} {r:β} (h:o.map f=some r): ∃ a,o=some a/\ r=f a:=by
 cases o with
 | none=>cases h
 | some a=>cases h;exact ⟨a,rfl,rfl⟩
theorem Qy {α β:Type} {l:List β} {i:Nat} {f:α -> β} {x:α} {r:List α} (hd:l.drop i=(x::r).map f):l[i]? =some (f x)/\ i+1<=l.length/\ l.drop (i+1)=r.map f:=by
 have AU:i<l.length:=by
  rcases zb i l.length with h | h
  ·exact h
  ·rw [zJ h] at hd;cases hd
 rw [ym AU] at hd;injection hd with h1 h2
 exact ⟨by rw [xy AU,h1],AU,h2⟩
theorem Mk {α β:Type} {l:List β} {i:Nat} {f:α -> β} (hi:i<=l.length) (hd:l.drop i=([]:List α).map f):i=l.length:=by
 have:=congrArg List.length hd;simp at this;omega
end
def BK (x:Int):Array Value:=#[.int .i64 x]
def Mi (x:Int×Int):Array Value:=#[.int .i64 x.1,.int .i64 x.2]
end Go.Proofs.YtgkhhfnhacibcaaGreatDoor
namespace Go.Proofs.YtgkhhfnhacibcaaGreatDoor
open Go.RowKit
section
variable {P:Program} {Γ:BB}
end
end Go.Proofs.YtgkhhfnhacibcaaGreatDoor
