/- Part 2 of 6 of what the proofs of these laws stand on. -/
import Derived.Test.YtgkhhfnhacibcaaGreatDoorPbA
import Derived.Test.YtgkhhfnhacibcaaGreatDoorProg
import Derived.Shelf.Spec.TrailingZeros
set_option linter.all false
namespace Go.Proofs.YtgkhhfnhacibcaaGreatDoor
abbrev zAm:=@List.getElem?_replicate
abbrev zCB:=@Array.getElem?_replicate
end Go.Proofs.YtgkhhfnhacibcaaGreatDoor
namespace Go.Proofs.YtgkhhfnhacibcaaGreatDoor
open Go.RowKit
def UQ (P:Program) (t:TypeId):Option (Nat×TypeId×TypeInfo):=match P.underlying t with
 | some (.slice e)=>match MH P e with
  | some (n,_)=>match P.info? e with
   | some i=>match i.zero with
    | some (.map none)=>if i.size=1/\ i.bytes<=128 then some (n,e,i) else none
    | _=>none
   | none=>none
  | none=>none
 | _=>none
theorem qm {P:Program} {t e:TypeId} {n:Nat} {i:TypeInfo} (h:UQ P t=some (n,e,i)):P.underlying t=some (.slice e)/\ P.info? e=some i/\ i.zero=some (.map none)/\ i.size=1/\ i.bytes<=128:=by
 unfold UQ at h;split at h
 ·rename_i e' hu;split at h
  ·split at h
   ·rename_i i' hi;split at h
    ·rename_i hz;split at h
     ·rename_i hc;cases h;exact ⟨hu,hi,hz,hc.1,hc.2⟩
     ·cases h
    ·cases h
   ·cases h
  ·cases h
 ·cases h
section
variable {P:Program} {Γ:Ax} {N:Nat -> Prop} {S:St} {ρ:List AI} {a:Act} {w:World} {h:DH}
theorem oh {α:Type} {n j:Nat} {x y:α} (h:(List.replicate n x)[j]? =some y):x=y:=by
 rw [zAm] at h;split at h
 ·exact zo h
 ·cases h
theorem qy (R:AY P Γ N S ρ a w) {t e:TypeId} {x y:Operand} {n:Nat} {i:TypeInfo} {kx ky:IntKind} {m:Int} (hT:UQ P t=some (n,e,i)) (hx:AW S.fr x= .int kx m) (hy:AW S.fr y= .int ky m)
 (hn:0<=m/\ m<=1000000000000) (o:Oper) (ho:o.op= .makeSlice t x y) (ext:Bool):
 BJ P (execOp a.eval o) w (DM P Γ N S.h ρ w ext (.msl S.h.length 1 0 m.toNat) (S.h++[some (.mo (.sets n (List.replicate m.toNat none) none))])):=by
 obtain ⟨hu,hi,hz,hs,DD⟩:=qm hT;have F0:=hn.1;have HQ:=hn.2;have rx:=BZ R x;have ry:=BZ R y;rw [hx] at rx;rw [hy] at ry;have C5:(madeCells (Value.map none).cells (m.toNat*i.size)).size=m.toNat:=by rw [size_madeCells,hs,zAi]
 have Co: ∀ j,j<m.toNat -> (madeCells (Value.map none).cells (m.toNat*i.size))[j]? =some (Value.map none):=fun j hj=>by
  simp [madeCells,hs,hj,Value.cells,Nat.mod_one]
 refine BJ.value (s:=Instr.makeSlice t (a.eval x) (a.eval y)) (by unfold execOp;rw [ho]) (v:=.slice (some ⟨w.heap.size,0,none⟩) m.toNat m.toNat) (w':=w.alloc (.cells (madeCells (Value.map none).cells (m.toNat*i.size)) e)) ?_ ?_
 ·rw [show a.eval x=_ from rx,show a.eval y=_ from ry];refine run_make w t e i _ hu hi hz kx ky m m F0 (zAo _) ?_ (by omega);have:(i.bytes:Int)*m<=128*1000000000000:=Int.mul_le_mul (by omega) HQ F0 (by omega);omega
 ·generalize hC:madeCells (Value.map none).cells (m.toNat*i.size)=cs at C5 Co ⊢
  refine Rq (ob:=.cells cs e) (o:=.mo (.sets n (List.replicate m.toNat none) none)) (d:=.msl S.h.length 1 0 m.toNat) (pl:=⟨w.heap.size,0,cs.size,.tuple (Array.replicate m.toNat (Value.map none)),fun b=>b=w.heap.size⟩) R.hr rfl rfl (fun M ρ'=>?_) (fun M ρ' hp=>⟨_,m.toNat,hp,by simp,zAF _,by unfold LB;omega,by simp [C5]⟩) ext;refine ⟨Array.replicate m.toNat (Value.map none),rfl,by simp,⟨cs,e,zBZ w _,by simp [C5],zAF _,fun j hj=>?_⟩,rfl,fun j l hj=>?_,fun j hj=>?_,fun b hb=>.inl hb,fun i j b h1 h2=>?_⟩
  ·rw [zx] at hj
   show cs[0+j]? =_
   rw [zAA,Co j hj,zCB,zi hj]
  ·have:=oh hj;cases this
  ·have BH:=(zp.1 hj).1;rw [zx] at BH;rw [zCB,zi BH]
  ·rw [zCB] at h1;split at h1 <;> cases h1
theorem BP.merge (H:BP P Γ N h ρ w) {w':World} {k j:Nat} {o oj o':DO} {p q p':AI} (ZG:k≠j) (hk:h[k]? =some (some o)) (hp:ρ[k]? =some p) (hj:h[j]? =some (some oj)) (hq:ρ[j]? =some q) (hu:AN p.foot w w') (hf: ∀ b,p'.foot b -> (p.foot b∨q.foot b)/\ C8 w' b)
 (ho:C7 P (MS N ((h.set k none).set j none++[some o']) (ρ++[p'])) w' (ρ++[p']) p' o'):
 BP P Γ N ((h.set k none).set j none++[some o']) (ρ++[p']) w'/\ A9 h ρ w ((h.set k none).set j none++[some o']) (ρ++[p']) w':=by
 have Af:((h.set k none).set j none).length=h.length:=by simp
 have hM: ∀ b,p.foot b -> MO h ρ b:=fun b hb=>⟨k,o,p,hk,hp,hb⟩
 have wQ: ∀ b,q.foot b -> MO h ρ b:=fun b hb=>⟨j,oj,q,hj,hq,hb⟩
 have iu: ∀ {i:Nat} {o1:DO},((h.set k none).set j none)[i]? =some (some o1) -> i≠k/\ i≠j/\ h[i]? =some (some o1):=fun {i o1} hi=>by
  obtain ⟨e1,e2⟩:=Fa hi;obtain ⟨e3,e4⟩:=Fa e2;exact ⟨e3,e1,e4⟩
 have H3: ∀ {i:Nat} {o1:DO} {p1:AI},((h.set k none).set j none++[some o'])[i]? =some (some o1) -> (ρ++[p'])[i]? =some p1 -> (i≠k/\ i≠j/\ i<h.length/\ h[i]? =some (some o1)/\ ρ[i]? =some p1)∨(i=h.length/\ o1=o'/\ p1=p'):=by
  intro i o1 p1 h1 h2;rcases DE h1 with ⟨hl,h1⟩ | ⟨hl,h1⟩
  ·rw [Af] at hl;rcases DE h2 with ⟨_,h2⟩ | ⟨CY,_⟩
   ·obtain ⟨e1,e2,e3⟩:=iu h1;exact .inl ⟨e1,e2,hl,e3,h2⟩
   ·rw [H.len] at CY;omega
  ·rw [Af] at hl;rcases DE h2 with ⟨CY,_⟩ | ⟨_,h2⟩
   ·rw [H.len] at CY;omega
   ·cases h1;exact .inr ⟨hl,rfl,h2.symm⟩
 have grow: ∀ b,MO ((h.set k none).set j none++[some o']) (ρ++[p']) b -> MO h ρ b:=by
  rintro b ⟨i,o1,p1,h1,h2,h3⟩;rcases H3 h1 h2 with ⟨_,_,_,g1,g2⟩ | ⟨_,_,rfl⟩
  ·exact ⟨i,o1,p1,g1,g2,h3⟩
  ·exact (hf b h3).1.elim (hM b) (wQ b)
 have O:BO (MS N h ρ) w ρ (MS N ((h.set k none).set j none++[some o']) (ρ++[p'])) w' (ρ++[p']):=
  ⟨fun b hb hm _=>hu.block b hb fun hx=>hm (.inr (hM b hx)),fun b hb=>.inl (hb.imp id (grow b)),fun i q hi=>Dg hi⟩
 refine ⟨⟨by simp [H.len],fun i o1 hi=>?_,fun i o1 p1 b h1 h2 h3=>?_,fun i i' o1 o2 p1 p2 b AQ h1 h2 h3 h4 h5 h6=>?_,fun b hb=>⟨zu (H.nlt b hb).1 hu.size,(H.nlt b hb).2⟩,Γ.st _ _ H.gi (hu.mono fun b _ hb=>(H.cel k o p b hk hp hb).1)⟩,⟨hu.mono fun b _ hb=>hM b hb,fun b hb=>.inl (grow b hb)⟩⟩
 ·rcases DE hi with ⟨hl,hi⟩ | ⟨hl,hi⟩
  ·obtain ⟨e1,e2,e3⟩:=iu hi;obtain ⟨p1,Ku,hr⟩:=H.obj i o1 e3;exact ⟨p1,Dg Ku,hr.out O hu (fun b hb=>.inr (hM b hb)) fun b _ h1 h2=>H.dis i k o1 o p1 p b e1 e3 hk Ku hp h1 h2⟩
  ·cases hi;exact ⟨p',by rw [hl,Af,←H.len];simp,ho⟩
 ·rcases H3 h1 h2 with ⟨AQ,_,_,g1,g2⟩ | ⟨_,_,rfl⟩
  ·obtain ⟨e1,e2,c,t,z,e3⟩:=H.cel i o1 p1 b g1 g2 h3;exact ⟨e1,e2,c,t,z,(hu.block b (zj.1 e3).1 fun hx=>H.dis i k o1 o p1 p b AQ g1 hk g2 hp h3 hx).trans e3⟩
  ·obtain ⟨e1,e2⟩:=hf b h3;rcases e1 with e1 | e1
   ·obtain ⟨q1,q2,_⟩:=H.cel k o p b hk hp e1;exact ⟨q1,q2,e2⟩
   ·obtain ⟨q1,q2,_⟩:=H.cel j oj q b hj hq e1;exact ⟨q1,q2,e2⟩
 ·have key: ∀ {i o1 p1},i≠k -> i≠j -> h[i]? =some (some o1) -> ρ[i]? =some p1 -> p1.foot b -> p'.foot b -> False:=fun {i o1 p1} AQ Mj g1 g2 g3 g4=>by
   rcases (hf b g4).1 with e1 | e1
   ·exact H.dis i k o1 o p1 p b AQ g1 hk g2 hp g3 e1
   ·exact H.dis i j o1 oj p1 q b Mj g1 hj g2 hq g3 e1
  rcases H3 h1 h3 with ⟨RT,Mj,_,g1,g2⟩ | ⟨e1,_,rfl⟩
  ·rcases H3 h2 h4 with ⟨hne3,_,_,g3,g4⟩ | ⟨e2,_,rfl⟩
   ·exact H.dis i i' o1 o2 p1 p2 b AQ g1 g3 g2 g4 h5 h6
   ·exact key RT Mj g1 g2 h5 h6
  ·rcases H3 h2 h4 with ⟨RT,Mj,_,g1,g2⟩ | ⟨e2,_,rfl⟩
   ·exact key RT Mj g1 g2 h6 h5
   ·exact AQ (e1.trans e2.symm)
def Kj (k k':Nat):DV -> DV
 | .msl k1 m o n=>if k1=k then .msl k' m o n else .msl k1 m o n
 | d=>d
def Wi (P:Program) (S:St) (o:Oper):Option (St×List Prop):=match o.op with
 | .store t x y=>match o.dst with
  | none=>match AW S.fr x with
   | .mp k 1 i 0=>match AW S.fr y with
    | .it j=>match S.h[k]? with
     | some (some (.mo (.sets n ls none)))=>match S.h[j]? with
      | some (some (.mo (.set n' l)))=>if n'=n/\ (P.info? t).any (fun i=>i.size==1)=true then some (⟨S.fr.map (Kj k S.h.length),(S.h.set k none).set j none++[some (.mo (.sets n (ls.set i (some l)) none))]⟩,[i<ls.length]) else none
      | _=>none
     | _=>none
    | _=>none
   | _=>none
  | some _=>none
 | _=>none
theorem Ek.of_map {p:AI} {n:Nat} {ls:List (Option KS)} {lk:Option (Nat×Nat×Array MapEntry×Nat)} {vs:Array Value} (hS:Ek w p n ls lk vs) {i b:Nat} (h:vs[i]? =some (Value.map (some b))): ∃ l,ls[i]? =some (some l)/\ p.foot b/\ b≠p.blk/\ ∃ es AT,EZ w b n l es AT:=by
 have hi:i<ls.length:=by rw [←hS.size];exact (zj.1 h).1
 cases hl:ls[i] with
 | none=>
  have:=hS.nil i (by rw [zf hi,hl]);rw [this] at h;cases h
 | some l=>
  have EA:ls[i]? =some (some l):=by rw [zf hi,hl]
  obtain ⟨b',g1,g2,g3,es,AT,g4,_⟩:=hS.has i l EA;have:b'=b:=by rw [g1] at h;cases h;rfl
  subst this;exact ⟨l,EA,g3,g2,es,AT,g4⟩
theorem mI (R:AY P Γ N S ρ a w) {o:Oper} {S':St} {vs:List Prop} (h:Wi P S o=some (S',vs)) (hv:Bb vs):
 BJ P (execOp a.eval o) w (fun v w'=>(∃ ρ',AY P Γ N S' ρ' (a.put o.dst v) w'/\ Dr S.h ρ w S'.h ρ' w')/\ ∃ k i p t x y,o.op= .store t x y/\ AW S.fr x= .mp k 1 i 0/\ ρ[k]? =some p/\ AN p.foot w w'):=by
 unfold Wi at h;split at h
 case h_2=>cases h
 rename_i t x y ho;split at h
 case h_2=>cases h
 rename_i ZQ;split at h
 case h_2=>cases h
 rename_i k i hX;split at h
 case h_2=>cases h
 rename_i j hY;split at h
 case h_2=>cases h
 rename_i n ls hK;split at h
 case h_2=>cases h
 rename_i n' l hJ;split at h
 case isFalse=>cases h
 rename_i hc;cases h;obtain ⟨vH,Am⟩:=hc;subst vH;have hi:i<ls.length:=hv.1;have rx:=BZ R x;have ry:=BZ R y;rw [hX] at rx;rw [hY] at ry;obtain ⟨p,hp,ex⟩:=rx;obtain ⟨q,es,AT,hq,ey,gX,hqv,hA⟩:=Wq R hJ ry;obtain ⟨p',Av,KE,hS⟩:=R.hr.obj k _ hK;have:p'=p:=zo (Av.symm.trans hp);subst this;have ZG:k≠j:=fun e=>by subst e;rw [hK] at hJ;cases hJ
 obtain ⟨cs,ty,hb,FZ,CY,Co⟩:=hS.row;cases Jg:P.info? t with
 | none=>rw [Jg] at Am;cases Am
 | some ti=>
 rw [Jg] at Am;have OI:ti.size=1:=by simpa using Am
 have iC:i<KE.size:=by rw [hS.size];exact hi
 have Yr: ∀ b,p'.foot b -> b≠q.blk:=fun b hb e=>R.hr.dis k j _ _ p' q b ZG hK hJ hp hq hb (by rw [gX];exact e)
 have Zv:a.eval x= .pointer (some ⟨p'.blk,p'.off+i,none⟩):=by rw [ex];simp
 have BL:w.cell? ⟨p'.blk,p'.off+i,none⟩=some KE[i]:=by
  unfold World.cell?;simp only [hb];rw [Co i hi,zAV iC];rfl
 have GM: ∀ jj,w.frozen? ⟨p'.blk,jj,none⟩=false:=fun jj=>by unfold World.frozen?;simp [hb]
 have hU:AN p'.foot w (w.setCells p'.blk (p'.off+i) (a.eval y).cells.toList):=(NI _ _ _ _).mono fun b _ e=>by rw [show b=p'.blk from e];exact hS.blk
 refine BJ.skip (s:=Instr.storeAt t (a.eval x) (a.eval y)) (by unfold execOp;rw [ho]) (w':=w.setCells p'.blk (p'.off+i) (a.eval y).cells.toList) ?_ ?_
 ·rw [Zv];refine W4 Jg (by rw [ey,OI];rfl) (fun jj Kx=>?_) GM (fun u hu=>?_)
  ·rw [ey] at Kx;have:jj=0:=by simpa [Value.cells] using Kx
   subst this;rw [zBc,BL];rfl
  ·rw [ey] at hu;have:u= .map (some q.blk):=by simpa [Value.cells] using hu
   subst this;rfl
 ·rw [ZQ];rw [ey] at hU ⊢;have eC:(Value.map (some q.blk)).cells.toList= [Value.map (some q.blk)]:=rfl;rw [eC] at hU ⊢;obtain ⟨Dq,e1,e2,e3⟩:=OW p'.blk ty (0,0) [Value.map (some q.blk)] (p'.off+i) w cs hb (by simp;omega)
  generalize hW:w.setCells p'.blk (p'.off+i) [Value.map (some q.blk)]=W at hU e1 ⊢
  have Ba: ∀ {b ob},b≠p'.blk -> w.heap[b]? =some ob -> W.heap[b]? =some ob:=fun {b ob} AQ Cx=>by
   rw [←Cx,←hW];exact (NI p'.blk [Value.map (some q.blk)] (p'.off+i) w).block b (zj.1 Cx).1 AQ
  have dt:q.blk≠p'.blk:=fun e=>Yr p'.blk hS.blk e.symm
  let Bc:=KE.setIfInBounds i (Value.map (some q.blk))
  have HM: ∀ m:Nat,Bc[m]? =if i=m then some (Value.map (some q.blk)) else KE[m]? :=fun m=>by
   show (KE.setIfInBounds i _)[m]? =_
   rw [zAf]
   by_cases e:i=m
   ·rw [zi e,zi e,zi iC]
   ·rw [zr e,zr e]
  let p2:AI:=⟨p'.blk,p'.off,p'.room,.tuple Bc,fun b=>b=p'.blk∨∃ m:Nat,Bc[m]? =some (Value.map (some b))⟩
  have fX: ∀ {m:Nat} {z:Option KS},(ls.set i (some l))[m]? =some z -> (m=i/\ z=some l)∨(m≠i/\ ls[m]? =some z):=fun {m z} hm=>by
   rw [zAU] at hm
   by_cases e:i=m
   ·subst e;simp [hi] at hm;exact .inl ⟨rfl,hm.symm⟩
   ·rw [zr e] at hm;exact .inr ⟨zB2 e,hm⟩
  have SA:Ek W p2 n' (ls.set i (some l)) none Bc:=by
   refine ⟨rfl,by simp [Bc,hS.size],⟨Dq,ty,e1,by simpa [e2] using FZ,by rw [e2];exact CY,fun m hm=>?_⟩,.inl rfl,fun m l1 hm=>?_,fun m hm=>?_,fun b hb=>?_,fun m m' b h1 h2=>?_⟩
   ·rw [zAK] at hm
    show Dq[p'.off+m]? =Bc[m]?
    rw [e3,HM]
    by_cases e:i=m
    ·subst e;rw [zi (by simp),zi rfl];simp
    ·rw [zr (by simp;omega),zr e];exact Co m hm
   ·rcases fX hm with ⟨rfl,e⟩ | ⟨AQ,hm⟩
    ·cases e;refine ⟨q.blk,by rw [HM,zi rfl],dt,.inr ⟨m,by rw [HM,zi rfl]⟩,es,AT,{ hA with blk:=Ba dt hA.blk },fun x hx=>by cases hx⟩
    ·obtain ⟨b,k1,k2,k3,HV,c1,k4,_⟩:=hS.has m l1 hm;exact ⟨b,by rw [HM,zr (zB2 AQ)];exact k1,k2,.inr ⟨m,by rw [HM,zr (zB2 AQ)];exact k1⟩,HV,c1,{ k4 with blk:=Ba k2 k4.blk },fun x hx=>by cases hx⟩
   ·rcases fX hm with ⟨rfl,e⟩ | ⟨AQ,hm⟩
    ·cases e
    ·rw [HM,zr (zB2 AQ)];exact hS.nil m hm
   ·rcases hb with hb | ⟨m,hm⟩
    ·exact .inl hb
    ·refine .inr ?_;have AC:=hm;rw [HM] at hm
     by_cases e:i=m
     ·subst e;exact ⟨i,l,by simp [hi],AC⟩
     ·rw [zr e] at hm;obtain ⟨l1,g1,_⟩:=hS.of_map hm;exact ⟨m,l1,by rw [zAU,zr e];exact g1,AC⟩
   ·rw [HM] at h1 h2
    by_cases c1:i=m
    ·by_cases c2:i=m'
     ·omega
     ·rw [zi c1] at h1;rw [zr c2] at h2;cases h1;obtain ⟨_,_,g2,_⟩:=hS.of_map h2;exact absurd rfl (Yr _ g2)
    ·rw [zr c1] at h1
     by_cases c2:i=m'
     ·rw [zi c2] at h2;cases h2;obtain ⟨_,_,g2,_⟩:=hS.of_map h1;exact absurd rfl (Yr _ g2)
     ·rw [zr c2] at h2;exact hS.inj m m' b h1 h2
  have Ef: ∀ b,p2.foot b -> (p'.foot b∨q.foot b)/\ C8 W b:=fun b hb=>by
   refine ⟨?_,SA.lies hb⟩;rcases hb with hb | ⟨m,hm⟩
   ·exact .inl (by rw [hb];exact hS.blk)
   ·rw [HM] at hm
    by_cases e:i=m
    ·rw [zi e] at hm;cases hm;exact .inr (by rw [gX])
    ·rw [zr e] at hm;exact .inl (hS.of_map hm).choose_spec.2.1
  obtain ⟨g1,g2⟩:=R.hr.merge (o':=.mo (.sets n' (ls.set i (some l)) none)) (p':=p2) ZG hK hp hJ hq hU Ef ⟨Bc,SA⟩
  have O:BO (MS N S.h ρ) w ρ (MS N ((S.h.set k none).set j none++[some (.mo (.sets n' (ls.set i (some l)) none))]) (ρ++[p2])) W (ρ++[p2]):=
   ⟨fun b hb hm _=>hU.block b hb fun hx=>hm (.inr ⟨k,_,p',hK,hp,hx⟩),fun b hb=>hb.elim (fun h=>.inl (.inl h)) (fun h=>(g2.grow b h).imp .inr id),fun k q hk=>Dg hk⟩
  refine ⟨⟨ρ++[p2],⟨g1,by simp [R.fr.1,Act.put],fun m hm=>?_⟩,g2,fun k q hk=>Dg hk⟩,k,i,p',t,x,y,ho,hX,hp,hU⟩;have Bw:m<S.fr.length:=by simpa using hm
  have e:(S.fr.map (Kj k S.h.length)).getD m .any=Kj k S.h.length (S.fr.getD m .any):=by simp [Bw]
  show AJ _ W ((S.fr.map (Kj k S.h.length)).getD m .any) _ _
  rw [e];have r0:=R.fr.2 m Bw;cases hd:S.fr.getD m .any with
  | msl k1 m1 o1 n1=>
   rw [hd] at r0
   by_cases hc:k1=k
   ·have e2:Kj k S.h.length (.msl k1 m1 o1 n1)= .msl S.h.length m1 o1 n1:=by simp only [Kj,zi hc]
    rw [e2];rw [hc] at r0;obtain ⟨q0,cap,OO,Yi,u1,u2,u3⟩:=r0;have xS:q0=p':=zo (OO.symm.trans hp);subst xS;exact ⟨p2,cap,by rw [←R.hr.len];simp,Yi,u1,u2,u3⟩
   ·have e2:Kj k S.h.length (.msl k1 m1 o1 n1)= .msl k1 m1 o1 n1:=by simp only [Kj,zr hc]
    rw [e2];exact AJ.out _ O r0
  | _=>rw [hd] at r0;exact AJ.out _ O r0
end
end Go.Proofs.YtgkhhfnhacibcaaGreatDoor
namespace Go.Proofs.YtgkhhfnhacibcaaGreatDoor
abbrev zBt:=@List.mem_iff_getElem?
abbrev zBu:=@Array.getElem?_toList
abbrev zCZ:=@Array.mem_toList_iff
end Go.Proofs.YtgkhhfnhacibcaaGreatDoor
namespace Go.Proofs.YtgkhhfnhacibcaaGreatDoor
open Go.RowKit
def Pb:DV:=.tup 0 (fun j=>([]:List DV).getD j .any)
theorem S5 {M:Nat -> Prop} {w:World} {ρ:List AI}:AJ M w Pb ρ undef:=⟨#[],rfl,rfl,fun j hj=>absurd hj (zy j)⟩
def Dy (fr:List DV) (dst:Option Nat) (d:DV):List DV:=match dst with
 | some t=>fr.set t d
 | none=>fr
section
variable {P:Program} {Γ:Ax} {N:Nat -> Prop} {S:St} {ρ:List AI} {a:Act} {w:World}
theorem Hn (R:AY P Γ N S ρ a w) (dst:Option Nat) {d:DV} {v:Value} (hv:AJ (MS N S.h ρ) w d ρ v):AY P Γ N ⟨Dy S.fr dst d,S.h⟩ ρ (a.put dst v) w:=by
 refine ⟨R.hr,?_⟩;cases dst with
 | none=>exact R.fr
 | some t=>exact R.fr.set t hv
theorem Oc (R:AY P Γ N S ρ a w) {d d':DV} {h':DH} {ext:Bool} {v:Value} {w':World} (dst:Option Nat) (G:DM P Γ N S.h ρ w ext d h' v w') (hd: ∀ M ρ',AJ M w' d ρ' v -> AJ M w' d' ρ' v):
 ∃ ρ',AY P Γ N ⟨Dy S.fr dst d',h'⟩ ρ' (a.put dst v) w'/\ Dr S.h ρ w h' ρ' w':=by
 obtain ⟨ρ',g1,g2,g3,g4⟩:=G.ex;have O:BO (MS N S.h ρ) w ρ (MS N h' ρ') w' ρ':=⟨fun b hb hm _=>g3.upd.block b hb fun hx=>hm (.inr hx),fun b hb=>hb.elim (fun h=>.inl (.inl h)) (fun h=>(g3.grow b h).imp .inr id),g4⟩;have R':AY P Γ N ⟨S.fr,h'⟩ ρ' a w':=⟨g1,R.fr.out O⟩;exact ⟨ρ',Hn R' dst (hd _ _ g2),g3,g4⟩
end
def P8 (P:Program) (t:TypeId):Option (TypeId×TypeId):=match P.underlying t with
 | some (.map k e)=>if RB P k then match P.info? e with
  | some i=>match i.zero with
   | some (.slice none 0 0)=>some (k,e)
   | _=>none
  | none=>none
  else none
 | _=>none
theorem dG {P:Program} {t k e:TypeId} (h:P8 P t=some (k,e)):P.underlying t=some (.map k e)/\ Fu P k=some 1/\ ∀ w,(zeroValue e).run P w= .ok (.slice none 0 0) w:=by
 unfold P8 at h;split at h
 ·rename_i k' e' hu;split at h
  ·rename_i hk;split at h
   ·rename_i i hi;split at h
    ·rename_i hz;cases h;exact ⟨hu,by unfold Fu;rw [YJ hk],fun w=>by simp [zeroValue,typeInfo,hi,hz]⟩
    ·cases h
   ·cases h
  ·cases h
 ·cases h
def Ny (j q:Nat):DV -> DV
 | .mri k i=>if k=j then (if i=0 then .mri q 0 else .any) else .mri k i
 | d=>d
def GY (f:Int -> List Int) (k:Int) (L:List Int):Int -> List Int:=fun x=>if x=k then L else f x
def P9 (P:Program) (S:St) (o:Oper):Option (St×List Prop):=match o.op with
 | .makeMap t none=>match P8 P t with
  | some _=>some (⟨Dy S.fr o.dst (.mri S.h.length 0),S.h++[some (.mo (.rows (fun _=>[]) none))]⟩,[])
  | none=>none
 | .lookup t m k false=>match P8 P t with
  | some _=>match AW S.fr m,AW S.fr k with
   | .mri j 0,.int .i64 x=>match S.h[j]? with
    | some (some (.mo (.rows f Bi)))=>if Bi.all (fun y=>!y.2.2) then some (⟨Dy (S.fr.map (Ny j S.h.length)) o.dst (.mri S.h.length 1),S.h.set j none++[some (.mo (.rows f (some (x,f x,false))))]⟩,[]) else none
    | _=>none
   | _,_=>none
  | none=>none
 | .mapUpdate t m k y=>match P8 P t with
  | some _=>match AW S.fr m,AW S.fr k,AW S.fr y with
   | .mri j 0,.int .i64 x,.mri j' 1=>match S.h[j]? with
    | some (some (.mo (.rows f (some (x',L,_)))))=>if j'=j then some (⟨Dy S.fr o.dst Pb,S.h.set j (some (.mo (.rows (GY f x' L) none)))⟩,[x'=x]) else none
    | _=>none
   | _,_,_=>none
  | none=>none
 | .call c=>match c.callee with
  | .builtin .append=>match c.args.toList with
   | [x,y]=>match c.argTypes.toList with
    | [t,t']=>if t=t' then match Jy P t with
     | some (.ints,_,i,_)=>if 128<i.bytes then none else match AW S.fr x,RA S (AW S.fr y) with
      | .mse j 1 off n,some (ys,vy)=>match S.h[j]? with
       | some (some (.ints xs))=>some (⟨Dy S.fr o.dst (.mse S.h.length 1 0 (n+ys.length)),S.h.set j none++[some (.ints (xs.drop off++ys))]⟩,[vy,0<ys.length,off+n=xs.length,n+ys.length<=A6])
       | _=>none
      | .mri j 1,some (ys,vy)=>match S.h[j]? with
       | some (some (.mo (.rows f (some (x',L,_)))))=>some (⟨Dy (S.fr.map (Ny j S.h.length)) o.dst (.mri S.h.length 1),S.h.set j none++[some (.mo (.rows f (some (x',L++ys,true))))]⟩,[vy,0<ys.length,L.length+ys.length<=A6])
       | _=>none
      | _,_=>none
     | _=>none
     else none
    | _=>none
   | _=>none
  | _=>none
 | _=>none
theorem oM {P:Program} {S:St} {o:Oper} {r:St×List Prop} (h:P9 P S o=some r) {t:TypeId} {x y:Operand}:o.op≠.store t x y:=by
 intro e;unfold P9 at h;rw [e] at h;cases h
theorem B0.map {M:Nat -> Prop} {w:World} {ρ:List AI} {fr:List DV} {t:Array Value} (h:B0 M w ρ fr t) {g:DV -> DV} (hg: ∀ d v,AJ M w d ρ v -> AJ M w (g d) ρ v):B0 M w ρ (fr.map g) t:=
 ⟨by simp [h.1],fun i hi=>by
  have A3:i<fr.length:=by simpa using hi
  have e:(fr.map g).getD i .any=g (fr.getD i .any):=by simp [A3]
  rw [e];exact hg _ _ (h.2 i A3)⟩
section
variable {P:Program} {Γ:Ax} {N:Nat -> Prop} {S:St} {ρ:List AI} {a:Act} {w w':World} {p p':AI} {f:Int -> List Int} {Bi:Option (Int×List Int×Bool)} {u:Value} {es:Array MapEntry} {AT:Nat}
theorem eU (h:EG w p f Bi u es AT) {kt:TypeId} (hk:P.underlying kt=some (.int .i64)) (x:Int):
 ((Instr.findKey kt (.int .i64 x) es.toList).run P w= .ok none w/\ ∀ e∈es.toList,e.key≠.int .i64 x)∨∃ j e,(Instr.findKey kt (.int .i64 x) es.toList).run P w= .ok (some (j,e.val)) w/\ es[j]? =some e/\ e.key= .int .i64 x:=by
 rcases MapKept.findNow_spec (d:=.int .i64) (k:=.int .i64 x) (by trivial) es.toList 0 (fun e hm=>by
  obtain ⟨k,hk,_⟩:=h.key e hm;rw [hk];trivial) with ⟨h1,h2⟩ | ⟨j,e,h1,h2,h3⟩
 ·exact .inl ⟨zCA hk h1,h2⟩
 ·exact .inr ⟨j,e,by have:=zCA (w:=w) hk h1;rw [zAA] at this;exact this,by simpa using h2,h3⟩
theorem UH (R:AY P Γ N S ρ a w) {j i:Nat} {v:Value} (hk:S.h[j]? =some (some (.mo (.rows f Bi)))) (hv:AJ (MS N S.h ρ) w (.mri j i) ρ v): ∃ p u es AT,ρ[j]? =some p/\ EG w p f Bi u es AT/\ (#[Value.map (some p.blk),u]:Array Value)[i]? =some v:=by
 obtain ⟨p,vs,hp,DT,CX⟩:=hv;obtain ⟨p',Av,u,es,AT,h1⟩:=R.hr.obj j _ hk;have:p'=p:=zo (Av.symm.trans hp);subst this;have: #[Value.map (some p'.blk),u]=vs:=by have:=h1.val.symm.trans DT;cases this;rfl
 subst this;exact ⟨p',u,es,AT,hp,h1,CX⟩
theorem EG.lies (h:EG w p f Bi u es AT):C8 w p.blk:=⟨_,rfl,(),h.blk⟩
theorem dE (R:AY P Γ N S ρ a w) {j:Nat} (hj:S.h[j]? =some (some (.mo (.rows f Bi)))) (hp:ρ[j]? =some p) (hO:EG w p f Bi u es AT) {f':Int -> List Int} {IJ:Option (Int×List Int×Bool)} {u':Value} {Dh:Array MapEntry} {EX:Nat}
 (hu:AN p.foot w w') (hf: ∀ b,p'.foot b -> (p.foot b∨w.heap.size<=b)/\ C8 w' b) (Mv:EG w' p' f' IJ u' Dh EX) (ZW:p'.blk=p.blk) (dst:Option Nat):
 ∃ ρ',AY P Γ N ⟨Dy (S.fr.map (Ny j S.h.length)) dst (.mri S.h.length 1),S.h.set j none++[some (.mo (.rows f' IJ))]⟩ ρ' (a.put dst u') w'/\ Dr S.h ρ w (S.h.set j none++[some (.mo (.rows f' IJ))]) ρ' w':=by
 obtain ⟨g1,g2⟩:=R.hr.regrow (o':=.mo (.rows f' IJ)) hj hp hu hf ⟨u',Dh,EX,Mv⟩;have D9: ∀ (k:Nat) (q:AI),ρ[k]? =some q -> (ρ++[p'])[k]? =some q:=fun k q hk=>Dg hk
 have O:BO (MS N S.h ρ) w ρ (MS N (S.h.set j none++[some (.mo (.rows f' IJ))]) (ρ++[p'])) w' (ρ++[p']):=
  ⟨fun b hb hm _=>hu.block b hb fun hx=>hm (.inr ⟨j,_,p,hj,hp,hx⟩),fun b hb=>hb.elim (fun h=>.inl (.inl h)) (fun h=>(g2.grow b h).imp .inr id),D9⟩
 have hq:(ρ++[p'])[S.h.length]? =some p':=by rw [←R.hr.len];simp
 have Df:=(R.fr.out O).map (g:=Ny j S.h.length) (fun d v hd=>by
  unfold Ny;split
  ·rename_i k i;split
   ·rename_i e;split
    ·rename_i e2;subst e e2;obtain ⟨q,vs,h1,h2,h3⟩:=hd;have:q=p:=zo (h1.symm.trans (D9 _ _ hp));subst this;have e3: #[Value.map (some q.blk),u]=vs:=by have:=hO.val.symm.trans h2;cases this;rfl
     subst e3;exact ⟨p',_,hq,Mv.val,by rw [ZW];simpa using h3⟩
    ·trivial
   ·exact hd
  ·exact hd)
 exact ⟨ρ++[p'],Hn (S:=⟨S.fr.map (Ny j S.h.length),_⟩) ⟨g1,Df⟩ dst ⟨p',_,hq,Mv.val,rfl⟩,g2,D9⟩
theorem qF (h:EG w p f Bi u es AT) (hh: ∀ k L,Bi≠some (k,L,true)) {t kt et:TypeId} (hm:P.underlying t=some (.map kt et)) (hk:Fu P kt=some 1) (hz:(zeroValue et).run P w= .ok (.slice none 0 0) w) (x:Int):
 ∃ u',(Instr.lookup t (.map (some p.blk)) (.int .i64 x) false).run P w= .ok u' w/\ EG w { p with val:=.tuple #[Value.map (some p.blk),u'] } f (some (x,f x,false)) u' es AT:=by
 have hu:P.underlying kt=some (.int .i64):=by
  rcases N9 hk with ⟨_,hu⟩ | ⟨_,_,_,h2,_⟩
  ·exact hu
  ·cases h2
 have hc:=fun e=>N8 (w:=w) hk (x:=[x]) rfl e
 have mk: ∀ u',(Gs w (fun b=>p.foot b/\ b≠p.blk) u' (f x)/\ ∀ e∈es.toList,∀ b,Cs u'=some b -> Cs e.val=some b -> e.key= .int .i64 x) -> EG w { p with val:=.tuple #[Value.map (some p.blk),u'] } f (some (x,f x,false)) u' es AT:=fun u' BT=>
  ⟨rfl,h.blk,h.own,fun e he=>let ⟨k,h1,h2⟩:=h.key e he;⟨k,h1,fun _=>h2 fun L=>hh k L⟩,h.no,h.nd,h.apart,h.born,h.stamps,fun k L g e=>by cases e;exact BT⟩
 rcases eU h hu x with ⟨h1,h2⟩ | ⟨j,e,h1,h2,h3⟩
 ·refine ⟨.slice none 0 0,?_,mk _ ⟨.inl ⟨h.no x h2,rfl⟩,fun e _ b hb=>by cases hb⟩⟩;have HT:=hc es.isEmpty;simp only [A7] at HT;simp [Instr.lookup,zAe hm,zA3 h.blk,HT,h1,hz,Result.andThen]
 ·have Bw:e∈es.toList:=zCZ.2 (zBE h2);obtain ⟨k,g1,g2⟩:=h.key e Bw;have:k=x:=by rw [g1] at h3;cases h3;rfl
  subst this;refine ⟨e.val,?_,mk _ ⟨g2 fun L=>hh k L,fun e' Gj b hb Cy=>(h.apart e' Gj e Bw b Cy hb).trans h3⟩⟩;have HT:=hc es.isEmpty;simp only [A7] at HT;simp [Instr.lookup,zAe hm,zA3 h.blk,HT,h1,Result.andThen]
theorem cW {F:Nat -> Prop} {L:List Int} (hs:Gs w F u L) {t e ty:TypeId} {i:TypeInfo} {z:Value} (hu:P.underlying t=some (.slice e)) (hi:P.info? e=some i) (hz:i.zero=some z) (Am:i.size=1) (CJ:z.cells.size=i.size) (DD:i.bytes<=128)
 {vy:Value} {ys:List Int} (hy:Src P i.size t vy ys.length (ys.map (Value.int .i64)) w) (hc:0<ys.length) (hb:L.length+ys.length<=A6):
 ∃ w' q Bn,(Builtin.append_ #[t,t] ty #[u,vy]).run P w= .ok (.slice (some ⟨q.blk,q.off,none⟩) (L++ys).length Bn) w'/\ (L++ys).length<=Bn/\ q.off+Bn<=q.room/\ AN (fun b=>Cs u=some b) w w'/\ (Cs u=some q.blk∨w.heap.size<=q.blk)/\ AU w' q (L++ys).length (fun j v=>v= .int .i64 ((L++ys).getD j 0)):=by
 have Af:(L++ys).length=L.length+ys.length:=zAO;rcases hs with ⟨rfl,rfl⟩ | ⟨q,cap,rfl,h1,h2,h3,h4,h5⟩
 ·obtain ⟨w',Bn,r1,r2,cs,rfl,r4,r5⟩:=aP none (ty:=ty) hu hi hz CJ DD hy hc (by unfold A6 at hb;simp at hb;omega);rw [Am,zAi] at r4;refine ⟨_,Dm w cs.size,Bn,by simpa [Dm] using r1,by simpa using r2,by simp [Dm,r4],AN.ofExt ((Au.toDrew w).allocR _),.inr (zAF _),Lp rfl (by simp;omega) fun j hj=>?_⟩;have BH:j<ys.length:=by simpa using hj
  refine ⟨.int .i64 (ys.getD j 0),?_,by simp⟩;rw [r5 j (by rw [Am,zAi];exact BH)];simp [BH]
 ·obtain ⟨w',q',Bn,r1,r2,r3,r4,r5,r6⟩:=aN (ty:=ty) (R:=fun j v=>v= .int .i64 (L.getD j 0)) (cap:=cap) hu hi hz (by omega) CJ DD (by rw [Am,zAi];exact h5) h1 (by rw [Am,zAi];exact h2) hy (by unfold A6 at hb;omega);rw [Am,zAi] at r3;have hq:q.foot=(fun b=>b=q.blk):=h5.1;have hR:=YI (P:=P) (M:=fun _=>False) (ρ':=[]) Am r6;refine ⟨w',q',Bn,by rw [Af];exact r1,by rw [Af];exact r2,r3,r4.mono fun b _ hb=>by rw [hq] at hb;rw [show b=q.blk from hb];rfl,?_,hR⟩;have Mg:=r6.1;rcases r5 q'.blk (by rw [Mg]) with e | e
  ·rw [hq] at e;exact .inl (by rw [show q'.blk=q.blk from e];rfl)
  ·exact .inr e
theorem qG (h:EG w p f Bi u es AT) {x:Int} {L:List Int} {g:Bool} (Iw:Bi=some (x,L,g)) (hl: ∀ b,p.foot b -> C8 w b) {t e ty:TypeId} {i:TypeInfo} {z:Value} (hu:P.underlying t=some (.slice e)) (hi:P.info? e=some i) (hz:i.zero=some z) (Am:i.size=1) (CJ:z.cells.size=i.size) (DD:i.bytes<=128)
 {vy:Value} {ys:List Int} (hy:Src P i.size t vy ys.length (ys.map (Value.int .i64)) w) (hc:0<ys.length) (hb:L.length+ys.length<=A6):
 ∃ w' u' p',(Builtin.append_ #[t,t] ty #[u,vy]).run P w= .ok u' w'/\ AN p.foot w w'/\ (∀ b,p'.foot b -> (p.foot b∨w.heap.size<=b)/\ C8 w' b)/\ EG w' p' f (some (x,L++ys,true)) u' es AT/\ p'.blk=p.blk:=by
 obtain ⟨hs,hd⟩:=h.inHand x L g Iw;have Af:(L++ys).length=L.length+ys.length:=zAO;have Xs:=cW (ty:=ty) hs hu hi hz Am CJ DD hy hc hb;obtain ⟨w',q,Bn,r1,r2,r3,r4,r5,r6⟩:=Xs;have LX: ∀ b,Cs u=some b -> (p.foot b/\ b≠p.blk)/\ b<w.heap.size:=fun b hb=>hs.blk hb
 have keep: ∀ b,b<w.heap.size -> Cs u≠some b -> w'.heap[b]? =w.heap[b]? :=fun b hb hn=>r4.block b hb hn
 have Mh:Cs u≠some p.blk:=fun e=>(LX _ e).1.2 rfl
 have Ys:p.blk<w.heap.size:=(zj.1 h.blk).1;have Yq:q.blk≠p.blk:=fun e=>r5.elim (fun e'=>Mh (by rw [←e];exact e')) (fun e'=>by omega)
 refine ⟨w',_,⟨p.blk,p.off,p.room,.tuple #[Value.map (some p.blk),.slice (some ⟨q.blk,q.off,none⟩) (L++ys).length Bn],fun b=>(p.foot b/\ Cs u≠some b)∨b=q.blk⟩,r1,r4.mono fun b _ hb=>(LX b hb).1.1,fun b hb=>?_,?_,rfl⟩
 ·rcases hb with ⟨g1,g2⟩ | g1
  ·obtain ⟨c,t1,t2,hc⟩:=hl b g1;exact ⟨.inl g1,c,t1,t2,(keep b (zj.1 hc).1 g2).trans hc⟩
  ·obtain ⟨_,cs,tt,g,_⟩:=r6;subst g1;exact ⟨r5.imp (fun e=>(LX _ e).1.1) id,.cells g⟩
 ·have Eu: ∀ e'∈es.toList,∀ k,e'.key= .int .i64 k -> k≠x -> Gs w (fun b=>p.foot b/\ b≠p.blk) e'.val (f k):=fun e' he k hk Jm=>by
   obtain ⟨k',h1,h2⟩:=h.key e' he;have:k'=k:=by rw [h1] at hk;cases hk;rfl
   subst this;exact h2 fun L' e=>by rw [Iw] at e;cases e;exact Jm rfl
  refine ⟨rfl,(keep _ Ys Mh).trans h.blk,.inl ⟨h.own,Mh⟩,fun e' he=>?_,h.no,h.nd,h.apart,h.born,h.stamps,fun k L' g' e'=>?_⟩
  ·obtain ⟨k,h1,_⟩:=h.key e' he;refine ⟨k,h1,fun hn=>?_⟩;have hk:k≠x:=fun e=>by subst e;exact hn _ rfl
   have ne: ∀ b,Cs e'.val=some b -> Cs u≠some b:=fun b hb Cy=>hk (by have:=hd e' he b Cy hb;rw [h1] at this;cases this;rfl)
   exact (Eu e' he k h1 hk).out (fun b hf hb hl=>keep b hl (ne b hb)) fun b hf hb=>⟨.inl ⟨hf.1,ne b hb⟩,hf.2⟩
  ·cases e';refine ⟨.inr ⟨q,Bn,rfl,r2,r3,by unfold LB;unfold A6 at hb;omega,⟨.inr rfl,Yq⟩,r6⟩,fun e' he b hb Cy=>?_⟩;cases hb;rcases r5 with r5 | r5
   ·exact hd e' he _ r5 Cy
   ·obtain ⟨k',h1,_⟩:=h.key e' he
    by_cases hk:k'=x
    ·subst hk;exact h1
    ·exact absurd ((Eu e' he k' h1 hk).blk Cy).2 (Nat.not_lt.2 r5)
theorem qE (h:EG w p f Bi u es AT) {x:Int} {L:List Int} {g:Bool} (Iw:Bi=some (x,L,g)) {t kt et:TypeId} (hm:P.underlying t=some (.map kt et)) (hk:Fu P kt=some 1):
 ∃ w' Dh EX,(Instr.mapUpdate t (.map (some p.blk)) (.int .i64 x) u).run P w= .ok () w'/\ AN (fun b=>b=p.blk) w w'/\ EG w' p (GY f x L) none u Dh EX:=by
 have hu:P.underlying kt=some (.int .i64):=by
  rcases N9 hk with ⟨_,hu⟩ | ⟨_,_,_,h2,_⟩
  ·exact hu
  ·cases h2
 have hc:=N8 (w:=w) hk (x:=[x]) rfl false;simp only [A7] at hc;obtain ⟨hs,hd⟩:=h.inHand x L g Iw;have AK:p.blk<w.heap.size:=(zj.1 h.blk).1
 have mk: ∀ (Dh:Array MapEntry) (EX:Nat),(∀ e∈Dh.toList,(e.key= .int .i64 x/\ e.val=u)∨(e∈es.toList/\ e.key≠.int .i64 x)) -> (∃ e∈Dh.toList,e.key= .int .i64 x) -> (∀ e∈es.toList,e.key≠.int .i64 x -> e∈Dh.toList) -> MapKept.Stamped Dh EX ->
  EG { w with heap:=w.heap.setIfInBounds p.blk (.map Dh EX) } p (GY f x L) none u Dh EX:=fun Dh EX m1 m2 m3 st=>by
  have stay: ∀ b,b≠p.blk -> (w.heap.setIfInBounds p.blk (.map Dh EX))[b]? =w.heap[b]? :=fun b hb=>by simp [zB2 hb]
  have Eu: ∀ e'∈es.toList,∀ k,e'.key= .int .i64 k -> k≠x -> Gs w (fun b=>p.foot b/\ b≠p.blk) e'.val (f k):=fun e' he k hk Jm=>by
   obtain ⟨k',h1,h2⟩:=h.key e' he;have:k'=k:=by rw [h1] at hk;cases hk;rfl
   subst this;exact h2 fun L' e=>by rw [Iw] at e;cases e;exact Jm rfl
  refine ⟨h.val,by simp [AK],h.own,fun e he=>?_,fun k CZ=>?_,st.2.2,fun e he e' Gj b hb Cy=>?_,st.1,st.2.1,fun k L' g' e=>by cases e⟩
  ·rcases m1 e he with ⟨a1,a2⟩ | ⟨a1,a2⟩
   ·refine ⟨x,a1,fun _=>?_⟩;rw [a2];unfold GY;rw [zi rfl];exact hs.out (fun b hf _ _=>stay b hf.2) fun _ h _=>h
   ·obtain ⟨k,h1,_⟩:=h.key e a1;have Jm:k≠x:=fun e'=>a2 (by rw [h1,e'])
    refine ⟨k,h1,fun _=>?_⟩;unfold GY;rw [zr Jm];exact (Eu e a1 k h1 Jm).out (fun b hf _ _=>stay b hf.2) fun _ h _=>h
  ·have Jm:k≠x:=fun e=>by subst e;obtain ⟨e,h1,h2⟩:=m2;exact CZ e h1 h2
   unfold GY;rw [zr Jm];refine h.no k fun e he iA=>?_
   exact CZ e (m3 e he fun h=>Jm (by rw [iA] at h;cases h;rfl)) iA
  ·rcases m1 e he with ⟨a1,a2⟩ | ⟨a1,a2⟩
   ·rcases m1 e' Gj with ⟨b1,b2⟩ | ⟨b1,b2⟩
    ·rw [a1,b1]
    ·rw [a2] at hb;exact a1.trans (hd e' b1 b hb Cy).symm
   ·rcases m1 e' Gj with ⟨b1,b2⟩ | ⟨b1,b2⟩
    ·rw [b2] at Cy;exact (hd e a1 b Cy hb).trans b1.symm
    ·exact h.apart e a1 e' b1 b hb Cy
 have st:MapKept.Stamped es AT:=⟨h.born,h.stamps,h.nd⟩;rcases eU h hu x with ⟨h1,h2⟩ | ⟨j,e,h1,h2,h3⟩
 ·refine ⟨_,es.push { key:=.int .i64 x,val:=u,born:=AT },AT+1,?_,PV _,mk _ _ (fun e he=>?_) ⟨{ key:=.int .i64 x,val:=u,born:=AT },by simp,rfl⟩ (fun e he _=>by simp [zCZ.1 he]) (MapKept.stamped_push st h2)⟩
  ·simp [Instr.mapUpdate,zAe hm,zA3 h.blk,hc,h1,zBn _ h.blk,Result.andThen]
  ·simp only [Array.toList_push,zAI,zAB] at he;rcases he with he | rfl
   ·exact .inr ⟨he,h2 e he⟩
   ·exact .inl ⟨rfl,rfl⟩
 ·have Do:((es[j]?).map (·.key)).getD (.int .i64 x)= .int .i64 x:=by rw [h2];exact h3
  have D8:=MapKept.run_keyThatStays (P:=P) (w:=w) (d:=.int .i64) (k:=.int .i64 x) (by trivial);have hj:j<es.size:=(zj.1 h2).1
  have inj: ∀ (m:Nat) (e':MapEntry),es[m]? =some e' -> e'.key= .int .i64 x -> m=j:=fun m e' Bw CZ=>by
   have F1:m<es.size:=(zj.1 Bw).1;have g1:(es.toList.map (·.key))[m]? =some (.int .i64 x):=by simp [Bw,CZ]
   have g2:(es.toList.map (·.key))[j]? =some (.int .i64 x):=by simp [h2,h3]
   exact (List.getElem?_inj (by simpa using F1) h.nd).1 (g1.trans g2.symm)
  have IF: ∀ (m:Nat),(es.modify j fun e=>{ e with key:=.int .i64 x,val:=u })[m]? =if j=m then (es[m]?).map (fun e=>{ e with key:=.int .i64 x,val:=u }) else es[m]? :=fun m=>zBb
  refine ⟨_,es.modify j fun e=>{ e with key:=.int .i64 x,val:=u },AT,?_,PV _,mk _ _ (fun e1 ZP=>?_) ⟨{ e with key:=.int .i64 x,val:=u },?_,rfl⟩ (fun e1 ZP AQ=>?_) (MapKept.stamped_modify st _ _ (fun _ _=>rfl) fun e' _ Gj=>by rw [h2] at Gj;cases Gj;exact h3.symm)⟩
  ·simp [Instr.mapUpdate,zAe hm,zA3 h.blk,hc,h1,Do,D8,zBn _ h.blk,Result.andThen]
  ·obtain ⟨m,Bw⟩:=zBt.1 ZP;rw [zBu,IF] at Bw;split at Bw
   ·rename_i ZJ;subst ZJ;rw [h2] at Bw;cases Bw;exact .inl ⟨rfl,rfl⟩
   ·rename_i ZJ;exact .inr ⟨zCZ.2 (zBE Bw),fun CZ=>ZJ (inj m e1 Bw CZ).symm⟩
  ·exact zBt.2 ⟨j,by rw [zBu,IF,zi rfl,h2];rfl⟩
  ·obtain ⟨m,Bw⟩:=zBt.1 ZP;rw [zBu] at Bw;refine zBt.2 ⟨m,by rw [zBu,IF,zr];exact Bw;rintro rfl;rw [h2] at Bw;cases Bw;exact AQ h3⟩
theorem qn (R:AY P Γ N S ρ a w) {j off n:Nat} {xs:List Int} {v:Value} (hO:S.h[j]? =some (some (.ints xs))) (hv:AJ (MS N S.h ρ) w (.mse j 1 off n) ρ v) (hn:off+n=xs.length) {t e ty:TypeId} {i:TypeInfo} {z:Value} (hu:P.underlying t=some (.slice e)) (hi:P.info? e=some i) (hz:i.zero=some z) (Am:i.size=1) (CJ:z.cells.size=i.size) (DD:i.bytes<=128)
 {vy:Value} {ys:List Int} (hy:Src P i.size t vy ys.length (ys.map (Value.int .i64)) w) (hc:0<ys.length) (hb:n+ys.length<=A6):
 ∃ u w' p' Bn,v=u/\ (Builtin.append_ #[t,t] ty #[u,vy]).run P w= .ok (.slice (some ⟨p'.blk,p'.off,none⟩) (n+ys.length) Bn) w'/\ n+ys.length<=Bn/\ p'.off+Bn<=p'.room/\ (∃ p,ρ[j]? =some p/\ AN p.foot w w'/\ ∀ b,p'.foot b -> (p.foot b∨w.heap.size<=b)/\ C8 w' b)/\
  (∀ {M ρ'},C7 P M w' ρ' p' (.ints (xs.drop off++ys)))/\ True:=by
 obtain ⟨p,ad,cap,hp,rfl,h1,h2,h3⟩:=hv;obtain ⟨p2,Mi,hr⟩:=R.hr.obj j _ hO;have:p2=p:=zo (Mi.symm.trans hp);subst this;have Mq:(xs.drop off).length=n:=by simp;omega
 have Xs: ∃ w' p' Bn,(Builtin.append_ #[t,t] ty #[.slice ad n cap,vy]).run P w= .ok (.slice (some ⟨p'.blk,p'.off,none⟩) (n+ys.length) Bn) w'/\ n+ys.length<=Bn/\ p'.off+Bn*i.size<=p'.room/\ AN p2.foot w w'/\ (∀ b,p'.foot b -> p2.foot b∨w.heap.size<=b)/\ AU w' p' ((n+ys.length)*i.size) (HZ (n*i.size) (fun j u=>u= .int .i64 ((xs.drop off).getD j 0)) (ys.map (Value.int .i64))):=by
  by_cases K0:cap=0
  ·subst K0;have FD:n=0:=by omega
   subst FD;obtain ⟨w',Bn,r1,r2,cs,rfl,r4,r5⟩:=aP ad (ty:=ty) hu hi hz CJ DD hy hc (by unfold A6 at hb;omega);refine ⟨_,Dm w cs.size,Bn,by simpa [Dm] using r1,by omega,by simp [Dm,r4],AN.ofExt ((Au.toDrew w).allocR _),fun b hb=>.inr (zCb (Eq.symm hb)),Lp rfl ?_ fun j hj=>?_⟩
   ·rw [r4];exact zBB _ (by omega)
   ·rw [zAA] at hj;refine ⟨(ys.map (Value.int .i64)).getD j undef,?_,?_⟩
    ·rw [r5 j hj];rw [Am,zAi] at hj;simp [hj]
    ·rw [Am,zAi] at hj;unfold HZ;rw [zr (by omega)];simp [hj]
  ·obtain ⟨rfl,h4⟩:=h3 (by omega);obtain ⟨c1,cs,tt,c2,c3,c4,c5⟩:=hr
   exact aN (ty:=ty) (p:={ p2 with off:=p2.off+off*1 }) (cap:=cap) hu hi hz (by omega) CJ DD (R:=fun j u=>u= .int .i64 ((xs.drop off).getD j 0)) (by
    refine ⟨c1,cs,tt,c2,?_,c4,fun j hj=>?_⟩
    ·rw [Am];show p2.off+off*1+n*1<=cs.size;omega
    ·rw [Am,zAi] at hj;obtain ⟨u,q1,q2⟩:=c5 (off+j) (by omega);refine ⟨u,by show cs[p2.off+off*1+j]? =_;rw [show p2.off+off*1+j=p2.off+(off+j) by omega];exact q1,?_⟩;rw [q2];simp [u8]) h1 (by rw [Am];simpa using h4) hy (by unfold A6 at hb;omega)
 obtain ⟨w',p',Bn,r1,r2,r3,r4,r5,r6⟩:=Xs;rw [Am,zAi] at r3;refine ⟨_,w',p',Bn,rfl,r1,r2,r3,⟨p2,hp,r4,fun b hb=>⟨r5 b hb,?_⟩⟩,fun {M ρ'}=>YI (xs:=xs.drop off) (ys:=ys) Am (by rw [Mq];exact r6),trivial⟩;obtain ⟨e1,cs,tt,e2,_⟩:=r6;rw [e1] at hb;exact .cells (c:=cs) (t:=tt) (z:=(0,0)) (by rw [show b=p'.blk from hb];exact e2)
theorem oL (R:AY P Γ N S ρ a w) {o:Oper} {S':St} {vs:List Prop} (h:P9 P S o=some (S',vs)) (hv:Bb vs):
 BJ P (execOp a.eval o) w (fun v w'=>∃ ρ',AY P Γ N S' ρ' (a.put o.dst v) w'/\ Dr S.h ρ w S'.h ρ' w'):=by
 unfold P9 at h;split at h
 ·rename_i t ho;split at h
  ·rename_i r hT;cases h;refine BJ.value (s:=Instr.makeMap t none) (by unfold execOp;rw [ho];rfl) (v:=.map (some w.heap.size)) (w':=w.alloc (.map #[] 0)) (by simp [Instr.makeMap,newObj];rfl) ?_;have G:=Rq (ob:=.map #[] 0) (o:=.mo (.rows (fun _=>[]) none)) (d:=.mri S.h.length 0) (v:=.map (some w.heap.size)) (pl:=⟨w.heap.size,0,0,.tuple #[.map (some w.heap.size),undef],fun b=>b=w.heap.size⟩) R.hr rfl rfl (fun M ρ'=>⟨undef,#[],0,rfl,zBZ w _,rfl,fun e he=>absurd he (by simp),fun _ _=>rfl,by simp,fun e he=>absurd he (by simp),fun e he=>absurd he (by simp),by simp,fun k L g e=>by cases e⟩) (fun M ρ' hp=>⟨_,_,hp,rfl,rfl⟩) true;exact Oc R o.dst G fun _ _ h=>h
  ·cases h
 ·rename_i t m k ho;split at h
  ·rename_i r hT;obtain ⟨kt,et⟩:=r;obtain ⟨hu,hk,hz⟩:=dG hT;have rm:=BZ R m;have rk:=BZ R k;split at h
   ·rename_i j x hM hK;split at h
    ·rename_i f Bi hO;split at h
     ·rename_i hh;cases h;rw [hM] at rm;rw [hK] at rk;obtain ⟨p,u,es,AT,hp,hA,CX⟩:=UH R hO rm;have em:a.eval m= .map (some p.blk):=by simpa using CX.symm
      have ek:a.eval k= .int .i64 x:=rk;obtain ⟨u',g1,g2⟩:=qF hA (fun k L e=>by subst e;simp at hh) hu hk (hz w) x;refine BJ.value (s:=Instr.lookup t (a.eval m) (a.eval k) false) (by unfold execOp;rw [ho]) (by rw [em,ek];exact g1) ?_;exact dE (p':={ p with val:=.tuple #[Value.map (some p.blk),u'] }) R hO hp hA (AN.refl _ _) (fun b hb=>⟨.inl hb,(R.hr.cel j _ p b hO hp hb).2.2⟩) g2 rfl o.dst
     ·cases h
    ·cases h
   ·cases h
  ·cases h
 ·rename_i t m k y ho;split at h
  ·rename_i r hT;obtain ⟨kt,et⟩:=r;obtain ⟨hu,hk,hz⟩:=dG hT;have rm:=BZ R m;have rk:=BZ R k;have ry:=BZ R y;split at h
   ·rename_i j x j' hM hK hY;split at h
    ·rename_i f x' L g hO;split at h
     ·rename_i hj;cases h;subst hj;have hx:x'=x:=hv.1;subst hx;rw [hM] at rm;rw [hK] at rk;rw [hY] at ry;obtain ⟨p,u,es,AT,hp,hA,CX⟩:=UH R hO rm;obtain ⟨p2,u2,es2,clock2,Mi,wZ,tF⟩:=UH R hO ry;have:p2=p:=zo (Mi.symm.trans hp);subst this;have eu:u2=u:=by have:=wZ.val.symm.trans hA.val;simp at this;exact this
      have em:a.eval m= .map (some p2.blk):=by simpa using CX.symm
      have ek:a.eval k= .int .i64 x':=rk;have ey:a.eval y=u:=by rw [←eu];simpa using tF.symm
      obtain ⟨w',Dh,EX,g1,g2,g3⟩:=qE hA rfl hu hk;refine BJ.skip (s:=Instr.mapUpdate t (a.eval m) (a.eval k) (a.eval y)) (by unfold execOp;rw [ho]) (w':=w') (by rw [em,ek,ey];exact g1) ?_;have Kq:AN p2.foot w w':=g2.mono fun b _ hb=>by rw [show b=p2.blk from hb];exact hA.own
      have hl: ∀ b,p2.foot b -> C8 w' b:=fun b hb=>by
       by_cases e:b=p2.blk
       ·rw [e];exact g3.lies
       ·obtain ⟨c,t1,t2,hc⟩:=(R.hr.cel _ _ p2 b hO hp hb).2.2;exact ⟨c,t1,t2,(g2.block b (zj.1 hc).1 e).trans hc⟩
      have G:DM P Γ N S.h ρ w false Pb (S.h.set j' (some (.mo (.rows (GY f x' L) none)))) undef w':=⟨⟨ρ,R.hr.write hO hp Kq hl ⟨u,Dh,EX,g3⟩,S5,A9.write hO hp Kq,fun _ _ h=>h⟩,fun h=>by cases h⟩;exact Oc R o.dst G fun _ _ h=>h
     ·cases h
    ·cases h
   ·cases h
  ·cases h
 ·rename_i c ho;split at h
  ·rename_i hc;split at h
   ·rename_i x y ha;split at h
    ·rename_i t t' ht;split at h
     ·rename_i e;subst e;split at h
      ·rename_i e i z hk;obtain ⟨hu,hi,hz,h0,CJ,Do,_⟩:=R9 hk;have CK:i.size=1:=Do.symm;split at h
       ·cases h
       ·rename_i DD;have rx:=BZ R x;have ry:=BZ R y;split at h
        ·rename_i j off n ys vy hX hY;split at h
         ·rename_i xs hO;cases h;obtain ⟨v1,v2,v3,v4,_⟩:=hv;rw [hX] at rx;obtain ⟨ad,w',p',Bn,e0,g1,g2,g3,g4,g5,_⟩:=qn (ty:=o.type) R hO rx v3 hu hi hz CK CJ (by omega) (by rw [CK];exact Q9 R hu ry hY v1) v2 v4;refine BJ.value (Rz ho hc ha ht) (by rw [e0];exact g1) ?_;obtain ⟨p,hp⟩:=g4;obtain ⟨q1,q2⟩:=R.hr.regrow (o':=.ints (xs.drop off++ys)) hO hp.1 hp.2.1 hp.2.2 g5
          have G:DM P Γ N S.h ρ w false (.mse S.h.length 1 0 (n+ys.length)) (S.h.set j none++[some (.ints (xs.drop off++ys))]) (.slice (some ⟨p'.blk,p'.off,none⟩) (n+ys.length) Bn) w':=
           ⟨⟨ρ++[p'],q1,⟨p',_,Bn,by rw [←R.hr.len];simp,rfl,g2,by unfold LB;unfold A6 at v4;omega,fun _=>⟨by simp,by simpa using g3⟩⟩,q2,fun _ _ h=>Dg h⟩,fun h=>by cases h⟩
          exact Oc R o.dst G fun _ _ h=>h
         ·cases h
        ·rename_i j ys vy hX hY;split at h
         ·rename_i f x' L g hO;cases h;obtain ⟨v1,v2,v3,_⟩:=hv;rw [hX] at rx;obtain ⟨p,u,es,AT,hp,hA,CX⟩:=UH R hO rx;have ex:a.eval x=u:=by simpa using CX.symm
          obtain ⟨w',u',p',g1,g2,g3,g4,g5⟩:=qG (ty:=o.type) hA rfl (fun b hb=>(R.hr.cel j _ p b hO hp hb).2.2) hu hi hz CK CJ (by omega) (by rw [CK];exact Q9 R hu ry hY v1) v2 v3;refine BJ.value (Rz ho hc ha ht) (by rw [ex];exact g1) ?_;exact dE R hO hp hA g2 g3 g4 g5 o.dst
         ·cases h
        ·cases h
      ·cases h
     ·cases h
    ·cases h
   ·cases h
  ·cases h
 ·cases h
def Wh (P:Program) (S:St) (o:Oper):Option (St×List Prop):=match Wi P S o with
 | some r=>some r
 | none=>P9 P S o
theorem cK (R:AY P Γ N S ρ a w) {o:Oper} {S':St} {vs:List Prop} (h:Wh P S o=some (S',vs)) (hv:Bb vs):
 BJ P (execOp a.eval o) w (fun v w'=>(∃ ρ',AY P Γ N S' ρ' (a.put o.dst v) w'/\ Dr S.h ρ w S'.h ρ' w')/\ ((∀ t x y,o.op≠.store t x y)∨∃ k i p t x y,o.op= .store t x y/\ AW S.fr x= .mp k 1 i 0/\ ρ[k]? =some p/\ AN p.foot w w')):=by
 have wk: ∀ {G G':Value -> World -> Prop},(∀ v w',G v w' -> G' v w') -> BJ P (execOp a.eval o) w G -> BJ P (execOp a.eval o) w G':=fun hg D=>by
  rcases D with ⟨v,w',h1,h2⟩ | ⟨w',h1,h2⟩ | ⟨f,args,w',h1,h2⟩
  ·exact .inl ⟨v,w',h1,hg _ _ h2⟩
  ·exact .inr (.inl ⟨w',h1,hg _ _ h2⟩)
  ·exact .inr (.inr ⟨f,args,w',h1,h2.mono fun e CI ⟨v,e1,e2⟩=>⟨v,e1,hg _ _ e2⟩⟩)
 unfold Wh at h;split at h
 ·rename_i r hM;cases h;exact wk (fun v w' hx=>⟨hx.1,.inr hx.2⟩) (mI R hM hv)
 ·exact wk (fun v w' hx=>⟨hx,.inl fun t x y=>oM h⟩) (oL R h hv)
end
end Go.Proofs.YtgkhhfnhacibcaaGreatDoor
namespace Go.Proofs.YtgkhhfnhacibcaaGreatDoor
abbrev zAu:=@List.getElem?_set_ne
abbrev zBi:=@Array.getElem?_setIfInBounds_ne
end Go.Proofs.YtgkhhfnhacibcaaGreatDoor
namespace Go.Proofs.YtgkhhfnhacibcaaGreatDoor
open Go.RowKit
def Ww (P:Program) (t:TypeId):Option (TypeId×TypeInfo):=match P.underlying t with
 | some (.slice e)=>match P.info? e with
  | some i=>match i.zero with
   | some (.slice none 0 0)=>if i.size=1/\ i.bytes<=128 then some (e,i) else none
   | _=>none
  | none=>none
 | _=>none
theorem nl {P:Program} {t e:TypeId} {i:TypeInfo} (h:Ww P t=some (e,i)):P.underlying t=some (.slice e)/\ P.info? e=some i/\ i.zero=some (.slice none 0 0)/\ i.size=1/\ i.bytes<=128:=by
 unfold Ww at h;split at h
 ·rename_i e' hu;split at h
  ·rename_i i' hi;split at h
   ·rename_i hz;split at h
    ·rename_i hc;cases h;exact ⟨hu,hi,hz,hc.1,hc.2⟩
    ·cases h
   ·cases h
  ·cases h
 ·cases h
def Nx (j q:Nat):DV -> DV
 | .msl k m o n=>if k=j then .msl q m o n else .msl k m o n
 | .mp k m i c=>if k=j then .mp q m i c else .mp k m i c
 | .mri k i=>if k=j then .any else .mri k i
 | d=>d
def Wx (P:Program) (S:St) (fz:List (Nat×Fz)) (o:Oper):Option (St×List Prop×List (Nat×Fz)):=match o.op with
 | .makeSlice t x y=>match fz with
  | (d,.rws)::rest=>if o.dst=some d then match Ww P t with
   | some _=>match AW S.fr x,AW S.fr y with
    | .int _ m,.int _ m'=>some (⟨Dy S.fr o.dst (.msl S.h.length 1 0 m.toNat),S.h++[some (.mo (.rws (List.replicate m.toNat []) none))]⟩,[m'=m/\ 0<=m/\ m<=1000000000000],rest)
    | _,_=>none
   | none=>none
   else none
  | _=>none
 | .call c=>match c.callee with
  | .builtin .append=>match c.args.toList with
   | [x,y]=>match c.argTypes.toList with
    | [t,t']=>if t=t' then match Jy P t with
     | some (.ints,_,i,_)=>if 128<i.bytes then none else match AW S.fr x,RA S (AW S.fr y) with
      | .mri j (r+1),some (ys,vy)=>match S.h[j]? with
       | some (some (.mo (.rws ls none)))=>some (⟨Dy (S.fr.map (Nx j S.h.length)) o.dst (.mri S.h.length 0),S.h.set j none++[some (.mo (.rws ls (some (r,ls.getD r default++ys))))]⟩,[vy,0<ys.length,r<ls.length,(ls.getD r default).length+ys.length<=A6],fz)
       | _=>none
      | _,_=>none
     | _=>none
     else none
    | _=>none
   | _=>none
  | _=>none
 | .store t x y=>match o.dst with
  | none=>match AW S.fr x,AW S.fr y with
   | .mp j 1 r 0,.mri j' 0=>match S.h[j]? with
    | some (some (.mo (.rws ls (some (r',L)))))=>if j'=j/\ (P.info? t).any (fun i=>i.size==1)=true then some (⟨S.fr.map (Nx j S.h.length),S.h.set j none++[some (.mo (.rws (ls.set r L) none))]⟩,[r'=r,r<ls.length],fz) else none
    | _=>none
   | _,_=>none
  | some _=>none
 | _=>none
section
variable {P:Program} {Γ:Ax} {N:Nat -> Prop} {S:St} {ρ:List AI} {a:Act} {w w':World} {p p':AI} {ls Qx:List (List Int)} {Bi IJ:Option (Nat×List Int)} {vs Bc:Array Value}
theorem cw (R:AY P Γ N S ρ a w) {j i:Nat} {v:Value} (hk:S.h[j]? =some (some (.mo (.rws ls Bi)))) (hv:AJ (MS N S.h ρ) w (.mri j i) ρ v): ∃ p vs,ρ[j]? =some p/\ I4 w p ls Bi vs/\ vs[i]? =some v:=by
 obtain ⟨p,vs,hp,DT,CX⟩:=hv;obtain ⟨p',Av,Bc,h1⟩:=R.hr.obj j _ hk;have:p'=p:=zo (Av.symm.trans hp);subst this;have:Bc=vs:=by have:=h1.val.symm.trans DT;cases this;rfl
 subst this;exact ⟨p',Bc,hp,h1,CX⟩
theorem cv (R:AY P Γ N S ρ a w) {j:Nat} (hj:S.h[j]? =some (some (.mo (.rws ls Bi)))) (hp:ρ[j]? =some p) (hu:AN p.foot w w') (hf: ∀ b,p'.foot b -> (p.foot b∨w.heap.size<=b)/\ C8 w' b) (Mv:I4 w' p' Qx IJ Bc)
 (e1:p'.blk=p.blk) (e2:p'.off=p.off) (e3:p'.room=p.room) (dst:Option Nat) {d:DV} {v:Value} (hd: ∀ M ρ',ρ'[S.h.length]? =some p' -> AJ M w' d ρ' v):
 ∃ ρ',AY P Γ N ⟨Dy (S.fr.map (Nx j S.h.length)) dst d,S.h.set j none++[some (.mo (.rws Qx IJ))]⟩ ρ' (a.put dst v) w'/\ Dr S.h ρ w (S.h.set j none++[some (.mo (.rws Qx IJ))]) ρ' w':=by
 obtain ⟨g1,g2⟩:=R.hr.regrow (o':=.mo (.rws Qx IJ)) hj hp hu hf ⟨Bc,Mv⟩;have D9: ∀ (k:Nat) (q:AI),ρ[k]? =some q -> (ρ++[p'])[k]? =some q:=fun k q hk=>Dg hk
 have O:BO (MS N S.h ρ) w ρ (MS N (S.h.set j none++[some (.mo (.rws Qx IJ))]) (ρ++[p'])) w' (ρ++[p']):=
  ⟨fun b hb hm _=>hu.block b hb fun hx=>hm (.inr ⟨j,_,p,hj,hp,hx⟩),fun b hb=>hb.elim (fun h=>.inl (.inl h)) (fun h=>(g2.grow b h).imp .inr id),D9⟩
 have hq:(ρ++[p'])[S.h.length]? =some p':=by rw [←R.hr.len];simp
 have Df:=(R.fr.out O).map (g:=Nx j S.h.length) (fun d v hd=>by
  unfold Nx;split
  ·rename_i k m o n;split
   ·rename_i e;subst e;obtain ⟨q,cap,h1,h2,h3,h4,h5⟩:=hd;have:q=p:=zo (h1.symm.trans (D9 _ _ hp));subst this;exact ⟨p',cap,hq,by rw [e1,e2];exact h2,h3,h4,by rw [e2,e3];exact h5⟩
   ·exact hd
  ·rename_i k m i c;split
   ·rename_i e;subst e;obtain ⟨q,h1,h2⟩:=hd;have:q=p:=zo (h1.symm.trans (D9 _ _ hp));subst this;exact ⟨p',hq,by rw [e1,e2];exact h2⟩
   ·exact hd
  ·split
   ·trivial
   ·exact hd
  ·exact hd)
 exact ⟨ρ++[p'],Hn (S:=⟨S.fr.map (Nx j S.h.length),_⟩) ⟨g1,Df⟩ dst (hd _ _ hq),g2,D9⟩
theorem nk (h:I4 w p ls none vs) {r:Nat} (hr:r<ls.length) (hl: ∀ b,p.foot b -> C8 w b) {t e ty:TypeId} {i:TypeInfo} {z:Value} (hu:P.underlying t=some (.slice e)) (hi:P.info? e=some i) (hz:i.zero=some z) (Am:i.size=1) (CJ:z.cells.size=i.size) (DD:i.bytes<=128)
 {vy:Value} {ys:List Int} (hy:Src P i.size t vy ys.length (ys.map (Value.int .i64)) w) (hc:0<ys.length) (hb:(ls.getD r default).length+ys.length<=A6):
 ∃ w' u' p',(Builtin.append_ #[t,t] ty #[vs.getD (r+1) undef,vy]).run P w= .ok u' w'/\ AN p.foot w w'/\ (∀ b,p'.foot b -> (p.foot b∨w.heap.size<=b)/\ C8 w' b)/\ I4 w' p' ls (some (r,ls.getD r default++ys)) (vs.setIfInBounds 0 u')/\ p'.blk=p.blk/\ p'.off=p.off/\ p'.room=p.room:=by
 have hs:=h.has r hr fun L e=>by cases e
 obtain ⟨w',q,Bn,r1,r2,r3,r4,r5,r6⟩:=cW (ty:=ty) hs hu hi hz Am CJ DD hy hc hb
 generalize hU:vs.getD (r+1) undef=u at*
 have LX: ∀ b,Cs u=some b -> (p.foot b/\ b≠p.blk)/\ b<w.heap.size:=fun b hb=>hs.blk hb
 have keep: ∀ b,b<w.heap.size -> Cs u≠some b -> w'.heap[b]? =w.heap[b]? :=fun b hb hn=>r4.block b hb hn
 have Mh:Cs u≠some p.blk:=fun e=>(LX _ e).1.2 rfl
 obtain ⟨cs,tt,k1,k2,k3,k4⟩:=h.row;have Ys:p.blk<w.heap.size:=(zj.1 k1).1;have Yq:q.blk≠p.blk:=fun e=>r5.elim (fun e'=>Mh (by rw [←e];exact e')) (fun e'=>by omega)
 have hv: ∀ j,(vs.setIfInBounds 0 (.slice (some ⟨q.blk,q.off,none⟩) (ls.getD r default++ys).length Bn)).getD (j+1) undef=vs.getD (j+1) undef:=fun j=>by
  simp [zAJ,zAf]
 have HN:(vs.setIfInBounds 0 (.slice (some ⟨q.blk,q.off,none⟩) (ls.getD r default++ys).length Bn)).getD 0 undef= .slice (some ⟨q.blk,q.off,none⟩) (ls.getD r default++ys).length Bn:=by
  have:0<vs.size:=by rw [h.size];omega
  simp [zAJ,zAf,this]
 have ne: ∀ j b,j<ls.length -> j≠r -> Cs (vs.getD (j+1) undef)=some b -> Cs u≠some b:=fun j b hj AQ hb Cy=>AQ (h.apart j r b hj hr (fun L e=>by cases e) (fun L e=>by cases e) hb (by rw [hU];exact Cy))
 refine ⟨w',_,⟨p.blk,p.off,p.room,.tuple (vs.setIfInBounds 0 (.slice (some ⟨q.blk,q.off,none⟩) (ls.getD r default++ys).length Bn)),fun b=>(p.foot b/\ Cs u≠some b)∨b=q.blk⟩,r1,r4.mono fun b _ hb=>(LX b hb).1.1,fun b hb=>?_,?_,rfl,rfl,rfl⟩
 ·rcases hb with ⟨g1,g2⟩ | g1
  ·obtain ⟨c,t1,t2,hc⟩:=hl b g1;exact ⟨.inl g1,c,t1,t2,(keep b (zj.1 hc).1 g2).trans hc⟩
  ·obtain ⟨_,cs,tt,g,_⟩:=r6;subst g1;exact ⟨r5.imp (fun e=>(LX _ e).1.1) id,.cells g⟩
 ·refine ⟨rfl,by simpa using h.size,⟨cs,tt,(keep _ Ys Mh).trans k1,k2,k3,fun j hj=>?_⟩,.inl ⟨h.blk,Mh⟩,fun j hj hh=>?_,fun i j b hi hj _ _ h1 h2=>?_,fun k L e=>?_⟩
  ·rw [zBi (by omega)];exact k4 j hj
  ·have AQ:j≠r:=fun e=>hh _ (by rw [e])
   rw [hv];exact (h.has j hj fun L e=>by cases e).out (fun b hf hb hl=>keep b hl (ne j b hj AQ hb)) fun b hf hb=>⟨.inl ⟨hf.1,ne j b hj AQ hb⟩,hf.2⟩
  ·rw [hv] at h1 h2;exact h.apart i j b hi hj (fun L e=>by cases e) (fun L e=>by cases e) h1 h2
  ·cases e;rw [HN];refine ⟨.inr ⟨q,Bn,rfl,r2,r3,by unfold LB;unfold A6 at hb;simp only [zAO];omega,⟨.inr rfl,Yq⟩,r6⟩,fun j b hj hb Cy=>?_⟩;cases hb;rw [hv] at Cy;rcases r5 with r5 | r5
   ·exact h.apart j r q.blk hj hr (fun L e=>by cases e) (fun L e=>by cases e) Cy (by rw [hU];exact r5)
   ·exact absurd ((h.has j hj fun L e=>by cases e).blk Cy).2 (Nat.not_lt.2 r5)
theorem nj (h:I4 w p ls Bi vs) {r:Nat} {L:List Int} (Iw:Bi=some (r,L)) (hr:r<ls.length) {t:TypeId} {ti:TypeInfo} (Jg:P.info? t=some ti) (Am:ti.size=1):
 ∃ w',(Instr.storeAt t (.pointer (some ⟨p.blk,p.off+r,none⟩)) (vs.getD 0 undef)).run P w= .ok () w'/\ AN (fun b=>b=p.blk) w w'/\ I4 w' { p with val:=.tuple (vs.setIfInBounds (r+1) (vs.getD 0 undef)) } (ls.set r L) none (vs.setIfInBounds (r+1) (vs.getD 0 undef))/\ C8 w' p.blk:=by
 obtain ⟨hs,hd⟩:=h.inHand r L Iw;obtain ⟨cs,tt,k1,k2,k3,k4⟩:=h.row
 generalize hU:vs.getD 0 undef=u at*
 have hc:u.cells= #[u]:=by rcases hs with ⟨_,rfl⟩ | ⟨q,cap,rfl,_⟩ <;> rfl
 have Jh:r+1<vs.size:=by rw [h.size];omega
 have BL:w.cell? ⟨p.blk,p.off+r,none⟩=some vs[r+1]:=by
  have:=k4 r hr;rw [zAV Jh] at this;unfold World.cell?;simp [k1,this]
 have GM: ∀ jj,w.frozen? ⟨p.blk,jj,none⟩=false:=fun jj=>by unfold World.frozen?;simp [k1]
 have hv: ∀ j,j≠r -> (vs.setIfInBounds (r+1) u).getD (j+1) undef=vs.getD (j+1) undef:=fun j hj=>by
  rw [zAJ,zAJ,zBi (by omega)]
 have Fx:(vs.setIfInBounds (r+1) u).getD (r+1) undef=u:=by
  simp [zAJ,zAf,Jh]
 obtain ⟨Dq,e1,e2,e3⟩:=OW p.blk tt (0,0) [u] (p.off+r) w cs k1 (by simp;omega);have Zc:AN (fun b=>b=p.blk) w (w.setCells p.blk (p.off+r) [u]):=NI _ _ _ _
 generalize hW:w.setCells p.blk (p.off+r) [u]=W at Zc e1
 have stay: ∀ b,b≠p.blk -> b<w.heap.size -> W.heap[b]? =w.heap[b]? :=fun b hb hl=>Zc.block b hl hb
 refine ⟨W,?_,Zc,?_,.cells e1⟩
 ·rw [←hW]
  have:=W4 (w:=w) (b:=p.blk) (o:=p.off+r) (v:=u) Jg (by rw [hc,Am];rfl) (fun jj Kx=>by
   have:jj=0:=by rw [hc] at Kx;simpa using Kx
   subst this;rw [zBc,BL];rfl) GM (fun x hx=>by
   have:x=u:=by rw [hc] at hx;simpa using hx
   subst this;rcases hs with ⟨_,rfl⟩ | ⟨q,cap,rfl,_⟩ <;> rfl)
  rw [hc] at this;exact this
 ·have lg: ∀ j,j≠r -> (ls.set r L).getD j default=ls.getD j default:=fun j hj=>by
   rw [u8,u8,zAu (by omega)]
  refine ⟨rfl,by simpa using h.size,⟨Dq,tt,e1,by simpa [e2] using k2,by rw [e2];exact k3,fun j hj=>?_⟩,h.blk,fun j hj _=>?_,fun i j b hi hj _ _ h1 h2=>?_,fun k L e=>by cases e⟩
  ·rw [zAK] at hj
   show Dq[p.off+j]? =_
   rw [e3]
   by_cases e:j=r
   ·subst e;rw [zi (by simp),Array.getElem?_setIfInBounds_self_of_lt Jh];simp
   ·rw [zr (by simp;omega),zBi (by omega)];exact k4 j hj
  ·rw [zAK] at hj
   by_cases e:j=r
   ·subst e;rw [Fx,show (ls.set j L).getD j default=L by simp [u8,hj]];exact hs.out (fun b hf _ hl=>stay b hf.2 hl) fun _ h _=>h
   ·rw [hv j e,lg j e];exact (h.has j hj fun L' e'=>by rw [Iw] at e';cases e';exact e rfl).out (fun b hf _ hl=>stay b hf.2 hl) fun _ h _=>h
  ·rw [zAK] at hi hj
   by_cases ei:i=r
   ·subst ei;rw [Fx] at h1
    by_cases ej:j=i
    ·exact ej.symm
    ·rw [hv j ej] at h2;exact (hd j b hj h1 h2).symm
   ·rw [hv i ei] at h1
    by_cases ej:j=r
    ·subst ej;rw [Fx] at h2;exact hd i b hi h2 h1
    ·rw [hv j ej] at h2;exact h.apart i j b hi hj (fun L' e'=>by rw [Iw] at e';cases e';exact ei rfl) (fun L' e'=>by rw [Iw] at e';cases e';exact ej rfl) h1 h2
theorem cx (R:AY P Γ N S ρ a w) {o:Oper} {S':St} {fz My:List (Nat×Fz)} {vc:List Prop} (h:Wx P S fz o=some (S',vc,My)) (hv:Bb vc):
 BJ P (execOp a.eval o) w (fun v w'=>(∃ ρ',AY P Γ N S' ρ' (a.put o.dst v) w'/\ Dr S.h ρ w S'.h ρ' w')/\ ((∀ t x y,o.op≠.store t x y)∨∃ k i p t x y,o.op= .store t x y/\ AW S.fr x= .mp k 1 i 0/\ ρ[k]? =some p/\ AN p.foot w w')):=by
 unfold Wx at h;split at h
 ·rename_i t x y ho;split at h
  case h_2=>cases h
  rename_i d rest;split at h
  case isFalse=>cases h
  split at h
  case h_2=>cases h
  rename_i r hT;obtain ⟨e,i⟩:=r;split at h
  case h_2=>cases h
  rename_i k1 m k2 m' hx hy;cases h;obtain ⟨⟨rfl,F0,HQ⟩,_⟩:=hv;obtain ⟨hu,hi,hz,hs,DD⟩:=nl hT;have rx:=BZ R x;have ry:=BZ R y;rw [hx] at rx;rw [hy] at ry;have C5:(madeCells (Value.slice none 0 0).cells (m'.toNat*i.size)).size=m'.toNat:=by rw [size_madeCells,hs,zAi]
  have Co: ∀ j,j<m'.toNat -> (madeCells (Value.slice none 0 0).cells (m'.toNat*i.size))[j]? =some (Value.slice none 0 0):=fun j hj=>by
   simp [madeCells,hs,hj,Value.cells,Nat.mod_one]
  refine BJ.value (s:=Instr.makeSlice t (a.eval x) (a.eval y)) (by unfold execOp;rw [ho]) (v:=.slice (some ⟨w.heap.size,0,none⟩) m'.toNat m'.toNat) (w':=w.alloc (.cells (madeCells (Value.slice none 0 0).cells (m'.toNat*i.size)) e)) ?_ ?_
  ·rw [show a.eval x=_ from rx,show a.eval y=_ from ry];refine run_make w t e i _ hu hi hz k1 k2 m' m' F0 (zAo _) ?_ (by omega);have:(i.bytes:Int)*m'<=128*1000000000000:=Int.mul_le_mul (by omega) HQ F0 (by omega);omega
  ·generalize hC:madeCells (Value.slice none 0 0).cells (m'.toNat*i.size)=cs at C5 Co ⊢
   have hg: ∀ j,j<m'.toNat -> (#[undef]++Array.replicate m'.toNat (Value.slice none 0 0)).getD (j+1) undef= .slice none 0 0:=fun j hj=>by
    simp [zAJ,Array.getElem?_append,hj]
   refine ⟨Oc R o.dst (Rq (ob:=.cells cs e) (o:=.mo (.rws (List.replicate m'.toNat []) none)) (d:=.msl S.h.length 1 0 m'.toNat) (pl:=⟨w.heap.size,0,cs.size,.tuple (#[undef]++Array.replicate m'.toNat (Value.slice none 0 0)),fun b=>b=w.heap.size⟩) R.hr rfl rfl (fun M ρ'=>?_) (fun M ρ' hp=>⟨_,m'.toNat,hp,by simp,zAF _,by unfold LB;omega,by simp [C5]⟩) true) fun _ _ h=>h,.inl fun t x y e=>by rw [ho] at e;cases e⟩;refine ⟨#[undef]++Array.replicate m'.toNat (Value.slice none 0 0),rfl,by simp;omega,⟨cs,e,zBZ w _,by simp [C5],zAF _,fun j hj=>?_⟩,rfl,fun j hj _=>.inl ⟨?_,?_⟩,fun i j b hi hj _ _ h1 h2=>?_,fun k L e=>by cases e⟩
   ·rw [zx] at hj
    show cs[0+j]? =_
    rw [zAA,Co j hj];simp [Array.getElem?_append,hj]
   ·rw [zx] at hj;simp [u8,hj]
   ·rw [zx] at hj;exact hg j hj
   ·rw [zx] at hi;rw [hg i hi] at h1;cases h1
 ·rename_i c ho;split at h
  case h_2=>cases h
  rename_i hc;split at h
  case h_2=>cases h
  rename_i x y ha;split at h
  case h_2=>cases h
  rename_i t t' ht;split at h
  case isFalse=>cases h
  rename_i e;subst e;split at h
  case h_2=>cases h
  rename_i e i z hk;obtain ⟨hu,hi,hz,h0,CJ,Do,_⟩:=R9 hk;have CK:i.size=1:=Do.symm;split at h
  case isTrue=>cases h
  rename_i DD;have rx:=BZ R x;have ry:=BZ R y;split at h
  case h_2=>cases h
  rename_i j r ys vy hX hY;split at h
  case h_2=>cases h
  rename_i ls hO;cases h;obtain ⟨v1,v2,v3,v4,_⟩:=hv;rw [hX] at rx;obtain ⟨p,vs,hp,hA,CX⟩:=cw R hO rx;have ex:a.eval x=vs.getD (r+1) undef:=by simp [zAJ,CX]
  obtain ⟨w',u',p',g1,g2,g3,g4,g5,g6,g7⟩:=nk (ty:=o.type) hA v3 (fun b hb=>(R.hr.cel j _ p b hO hp hb).2.2) hu hi hz CK CJ (by omega) (by rw [CK];exact Q9 R hu ry hY v1) v2 v4;refine BJ.value (Rz ho hc ha ht) (by rw [ex];exact g1) ?_
  exact ⟨cv R hO hp g2 g3 g4 g5 g6 g7 o.dst fun M ρ' hq=>⟨p',_,hq,g4.val,by
   have:0<vs.size:=by rw [hA.size];omega
   simp [zAf,this]⟩,.inl fun t x y e=>by rw [ho] at e;cases e⟩
 ·rename_i t x y ho;split at h
  case h_2=>cases h
  rename_i ZQ;split at h
  case h_2=>cases h
  rename_i j r j' hX hY;split at h
  case h_2=>cases h
  rename_i ls r' L hO;split at h
  case isFalse=>cases h
  rename_i hc;cases h;obtain ⟨rfl,Am⟩:=hc;obtain ⟨rfl,v2,_⟩:=hv;have rx:=BZ R x;have ry:=BZ R y;rw [hX] at rx;rw [hY] at ry;obtain ⟨p,vs,hp,hA,CX⟩:=cw R hO ry;obtain ⟨p2,Mi,ex⟩:=rx;have:p2=p:=zo (Mi.symm.trans hp);subst this;cases Jg:P.info? t with
  | none=>rw [Jg] at Am;cases Am
  | some ti=>
  rw [Jg] at Am;have Zv:a.eval x= .pointer (some ⟨p2.blk,p2.off+r',none⟩):=by rw [ex];simp
  have ey:a.eval y=vs.getD 0 undef:=by simp [zAJ,CX]
  obtain ⟨W,g1,g2,g3,g4⟩:=nj hA rfl v2 Jg (by simpa using Am);refine BJ.skip (s:=Instr.storeAt t (a.eval x) (a.eval y)) (by unfold execOp;rw [ho]) (w':=W) (by rw [Zv,ey];exact g1) ?_
  have:=cv (a:=a) (p':={ p2 with val:=.tuple (vs.setIfInBounds (r'+1) (vs.getD 0 undef)) }) R hO hp (g2.mono fun b _ hb=>by rw [show b=p2.blk from hb];exact hA.blk) (fun b hb=>⟨.inl hb,by
   by_cases e:b=p2.blk
   ·rw [e];exact g4
   ·obtain ⟨c,t1,t2,hc⟩:=(R.hr.cel _ _ p2 b hO hp hb).2.2;exact ⟨c,t1,t2,(g2.block b (zj.1 hc).1 e).trans hc⟩⟩) g3 rfl rfl rfl none (d:=.any) (v:=undef) fun _ _ _=>trivial
  rw [ZQ];exact ⟨this,.inr ⟨j',r',p2,t,x,y,ho,hX,hp,g2.mono fun b _ hb=>by rw [show b=p2.blk from hb];exact hA.blk⟩⟩
 ·cases h
end
end Go.Proofs.YtgkhhfnhacibcaaGreatDoor
namespace Go.Proofs.YtgkhhfnhacibcaaGreatDoor
abbrev zBo:=@Bool.false_ne_true
end Go.Proofs.YtgkhhfnhacibcaaGreatDoor
namespace Go.Proofs.YtgkhhfnhacibcaaGreatDoor
open Go.RowKit
def ES (P:Program) (Γ:Ax) (f:Nat) (ds:List DV) (h:DH) (d:DV) (h':DH) (ext:Bool):Prop:=
 (∃ fn,P.funcs[f]? =some fn/\ fn.name≠ "runtime.NumGoroutine" /\ fn.body.isSome=true)/\
 ∀ (N:Nat -> Prop) (ρ:List AI) (w:World) (args:Array Value),BP P Γ N h ρ w -> B0 (MS N h ρ) w ρ ds args ->
  Calls P f args w fun e w'=>∃ v,e= .returned v/\ DM P Γ N h ρ w ext d h' v w'
structure Bs where
 calls:List (DV×DH×Bool)
 co:List (Nat×DV)
 fz:List (Nat×Fz):=[]
 tg:List (List (Nat×Nat)×St):=[]
def LW (ops:Array Oper) (S:St) (o:Oper):Option Bool:=match o.guard with
 | none=>some true
 | some (j,bE)=>match (ops[j]?).bind (·.dst) with
  | some t=>match S.fr.getD t .any with
   | .bool b=>some (b==bE)
   | .tup _ _=>some false
   | _=>none
  | none=>none
def Vr (co:List (Nat×DV)) (dst:Option Nat) (d:DV):DV×List Prop×List (Nat×DV):=match co with
 | []=>(d,[],[])
 | (t,d')::rest=>match dst with
  | some t'=>if t'=t then (d',[AM d d'],rest) else (d,[],co)
  | none=>(d,[],co)
def KF (S:St):Op -> Bool
 | .move _=>true
 | .assign _=>true
 | .pick .. =>true
 | .binOp .shl .. =>false
 | .binOp .shr .. =>false
 | .binOp .quo .. =>false
 | .binOp .rem .. =>false
 | .binOp _ _ _ y _=>match AW S.fr y with
  | .nils=>false
  | _=>true
 | .unOp .. =>true
 | .convert .. =>true
 | .nilCheck _=>true
 | .fieldAddr .. =>true
 | .extract .. =>true
 | .makeFunc .. =>true
 | .build .. =>true
 | .field .. =>true
 | .call _=>true
 | .load _ x=>match AW S.fr x with
  | .mp .. =>false
  | _=>true
 | _=>false
def sH:Op -> Bool
 | .box .. =>true
 | .alloc _=>true
 | .buildSlice .. =>true
 | .makeSlice .. =>true
 | .store .. =>true
 | .makeMap .. =>true
 | .mapUpdate .. =>true
 | .insert .. =>true
 | .lookup .. =>true
 | .range .. =>true
 | .entry _=>true
 | .call c=>match c.callee with
  | .builtin .append=>true
  | .value _=>true
  | _=>false
 | _=>false
def QQ (P:Program) (ops:Array Oper) (S:St) (co:List (Nat×DV)) (o:Oper):Option (St×List Prop×List (Nat×DV)):=match LW ops S o with
 | none=>none
 | some false=>some (⟨Dy S.fr o.dst Pb,S.h⟩,[],co)
 | some true=>match Qa P S o.op with
  | none=>none
  | some (d,vc)=>match Vr co o.dst d with
   | (d',vs,Di)=>some (⟨Dy S.fr o.dst d',S.h⟩,(if KF S o.op then vs else vc::vs),Di)
def QR (P:Program) (ops:Array Oper):List Oper -> St -> List (Nat×DV) -> Option (St×List Prop×List (Nat×DV))
 | [],S,co=>some (S,[],co)
 | o::rest,S,co=>match QQ P ops S co o with
  | none=>none
  | some (S',vs,Di)=>match QR P ops rest S' Di with
   | none=>none
   | some (Cd,Bc,jk)=>some (Cd,vs++Bc,jk)
def PG (P:Program) (Γ:Ax) (S:St) (calls:List (DV×DH×Bool)):Op -> Option (DV×DH×List Prop×Bool×List (DV×DH×Bool))
 | .box _ x=>match IL (AW S.fr x) with
  | some l=>some (.ref S.h.length 0,S.h++[some (.cells l)],[],true,calls)
  | none=>none
 | .alloc t=>match P.info? t with
  | some i=>match i.zero with
   | some z=>if WD z then some (.mp S.h.length 1 0 0,S.h++[some (.bools (List.replicate z.cells.size false))],[],true,calls)
    else some (.ref S.h.length 0,S.h++[some (.cells (z.cells.toList.map FA))],[],true,calls)
   | none=>none
  | none=>none
 | .buildSlice t len parts=>match Jy P t with
  | some (k,_,_,_)=>if Vj parts.toList len&&decide (len<=65536/\ k.cells<=64) then match O8 k (parts.toList.map fun x=>AW S.fr x.2) with
   | some ob=>some (.msl S.h.length k.cells 0 len,S.h++[some ob],[],true,calls)
   | none=>none
   else none
  | none=>none
 | .makeSlice t x y=>match UQ P t with
  | some (n,_,_)=>match AW S.fr x,AW S.fr y with
   | .int _ m,.int _ m'=>some (.msl S.h.length 1 0 m.toNat,S.h++[some (.mo (.sets n (List.replicate m.toNat none) none))],[m'=m/\ 0<=m/\ m<=1000000000000],true,calls)
   | _,_=>none
  | none=>match Jy P t with
   | some (k,_,i,z)=>if decide (i.bytes<=128) then match AW S.fr x,AW S.fr y with
    | .int _ n,.int _ n'=>some (.msl S.h.length k.cells 0 n.toNat,S.h++[some (fV k n.toNat z)],[n'=n/\ 0<=n/\ n<=1000000000000],true,calls)
    | _,_=>none
    else none
   | none=>none
 | .store t x y=>match Lc P S t (AW S.fr x) (AW S.fr y) with
  | some (h',vc)=>some (.any,h',[vc],false,calls)
  | none=>none
 | .call c=>match c.callee with
  | .builtin .append=>match c.args.toList with
   | [x,y]=>match c.argTypes.toList with
    | [t,t']=>if t=t' then match aT P S t (AW S.fr x) (AW S.fr y) with
     | some (d,h',vc)=>some (d,h',[vc],false,calls)
     | none=>none
     else none
    | _=>none
   | _=>none
  | .value f=>match AW S.fr f,calls with
   | .fn g m cap,(d,h',ext)::rest=>some (d,h',[ES P Γ g (c.args.toList.map (AW S.fr)++(List.range m).map cap) S.h d h' ext],ext,rest)
   | _,_=>none
  | _=>none
 | op=>match Xr P S op with
  | some (d,h',vs,ext)=>some (d,h',vs,ext,calls)
  | none=>none
def M8 (P:Program) (Γ:Ax) (ops:Array Oper) (S:St) (Ao:Bs) (o:Oper):Option (St×List Prop×Bool×Bs):=match LW ops S o with
 | none=>none
 | some false=>some (⟨Dy S.fr o.dst Pb,S.h⟩,[],true,Ao)
 | some true=>match Wx P S Ao.fz o with
  | some (S',vs,My)=>some (S',vs,false,⟨Ao.calls,Ao.co,My,Ao.tg⟩)
  | none=>match Wh P S o with
  | some (S',vs)=>some (S',vs,false,Ao)
  | none=>match PG P Γ S Ao.calls o.op with
   | none=>none
   | some (d,h',vs,ext,calls)=>match Vr Ao.co o.dst d with
    | (d',Bc,Di)=>match VO Ao.fz o.dst ⟨Dy S.fr o.dst d',h'⟩ with
     | none=>none
     | some (S',WN,My)=>some (S',vs++(Bc++WN),ext,⟨calls,Di,My,Ao.tg⟩)
def Eg (P:Program) (Γ:Ax) (ops:Array Oper):List Oper -> St -> Bs -> Option (St×List Prop×Bs)
 | [],S,Ao=>some (S,[],Ao)
 | o::rest,S,Ao=>match sH o.op with
  | true=>match M8 P Γ ops S Ao o with
   | none=>none
   | some (S',vs,_,CP)=>match Eg P Γ ops rest S' CP with
    | none=>none
    | some (Cd,Bc,Qj)=>some (Cd,vs++Bc,Qj)
  | false=>match QQ P ops S Ao.co o with
   | none=>none
   | some (S',vs,Di)=>match Eg P Γ ops rest S' ⟨Ao.calls,Di,Ao.fz,Ao.tg⟩ with
    | none=>none
    | some (Cd,Bc,Qj)=>some (Cd,vs++Bc,Qj)
def hseq (P:Program) (Γ:Ax) (ops:Array Oper):List (List Nat×Nat) -> List Nat -> List Nat -> St -> Bs -> Option (St×List Prop×Bs)
 | [],last,tail,S,Ao=>match QR P ops (E9 ops last) S Ao.co with
  | none=>none
  | some (S',vs,Di)=>match Eg P Γ ops (E9 ops tail) S' ⟨Ao.calls,Di,Ao.fz,Ao.tg⟩ with
   | none=>none
   | some (Cd,Bc,Qj)=>some (Cd,vs++Bc,Qj)
 | (G6,i)::Fs,last,tail,S,Ao=>match QR P ops (E9 ops G6) S Ao.co with
  | none=>none
  | some (S',vs,Di)=>match ops[i]? with
   | none=>none
   | some o=>match M8 P Γ ops S' ⟨Ao.calls,Di,Ao.fz,Ao.tg⟩ o with
    | none=>none
    | some (Cd,Bc,ext,CP)=>match ext with
     | false=>none
     | true=>match hseq P Γ ops Fs last tail Cd CP with
      | none=>none
      | some (S3,PS,Ns)=>some (S3,vs++(Bc++PS),Ns)
section
variable {P:Program} {Γ:Ax} {N:Nat -> Prop} {S:St} {ρ:List AI} {a:Act} {w:World} {F:Fence}
structure Du (F:Fence) (P:Program):Prop where
 fn: ∀ f,F.fn f
 dep:F.depth=none
 calls: ∀ {f:FuncId} {args:Array Value} {w:World} {R:Ending -> World -> Prop},Calls P f args w R -> CallsIn F 0 P f args w R
theorem Du.wide:Du Fence.wide P:=⟨fun _=>trivial,rfl,fun h=>callsIn_wide.2 h⟩
theorem Du.round (l:Nat):Du (Fence.wide.inRound l) P:=⟨fun _=>trivial,rfl,fun h=>CallsIn.inRound _ (callsIn_wide.2 h)⟩
theorem KD (R:AY P Γ N S ρ a w) {ops:Array Oper} {o:Oper} {r:Bool} (h:LW ops S o=some r):Region.wanted o (yielded ops a.tmps)=r:=by
 unfold LW at h;unfold Region.wanted;split at h
 ·rename_i hg;rw [hg];cases h;rfl
 ·rename_i j bE hg;rw [hg];split at h
  ·rename_i t ht;split at h
   ·rename_i b hb;cases h;have hr:=R.fr.at t;rw [hb] at hr;have hv:a.tmps.getD t undef= .bool b:=hr
    have:a.tmps[t]? =some (.bool b):=by
     rw [zAJ] at hv;cases hx:a.tmps[t]? with
     | none=>rw [hx] at hv;cases hv
     | some u=>rw [hx] at hv;exact congrArg some hv
    simp [yielded,ht,this]
   ·rename_i m f hb;cases h;have hr:=R.fr.at t;rw [hb] at hr;obtain ⟨cs,hv,_⟩:=hr
    have:yielded ops a.tmps j=none:=by
     unfold yielded;rw [ht]
     show (match a.tmps[t]? with | some (.bool b)=>some b | _=>none)=none
     rw [zAJ] at hv;cases hx:a.tmps[t]? with
     | none=>rfl
     | some u=>rw [hx] at hv;have hv:u= .tuple cs:=hv;rw [hv]
    simp [this]
   ·cases h
  ·cases h
theorem Z9 {co:List (Nat×DV)} {dst:Option Nat} {d d':DV} {vs:List Prop} {Di:List (Nat×DV)} (h:Vr co dst d=(d',vs,Di)) (hv:Bb vs) {M:Nat -> Prop} {v:Value} (hr:AJ M w d ρ v):AJ M w d' ρ v:=by
 unfold Vr at h;split at h
 ·cases h;exact hr
 ·split at h
  ·split at h
   ·cases h;exact hv.1 M w ρ v hr
   ·cases h;exact hr
  ·cases h;exact hr
theorem dz {op:Op} {d:DV} {vc:Prop} (h:pop P S op=some (d,vc)) (ht:KF S op=true):vc:=by
 unfold pop at h;split at h
 ·cases h;trivial
 ·cases h;trivial
 ·repeat' (split at h)
  all_goals first | (cases h;trivial) | (cases h;done)
 ·rename_i t x;simp only [KF] at ht;unfold MK at h
  repeat' (split at h)
  all_goals first | (cases h;trivial) | (cases h;done) | (simp_all;done)
 ·rename_i op t x y t';unfold V1 at h;split at h
  ·split at h
   all_goals first | (cases h;trivial) | (cases h;done)
  ·split at h
   all_goals first | (cases h;trivial) | (cases h;done)
  ·rename_i e;simp [KF,e] at ht
  ·rename_i e;simp [KF,e] at ht
  ·rename_i e;simp [KF,e] at ht
  ·cases ht
  ·cases ht
  ·cases ht
  ·cases ht
  ·split at h
   ·unfold V0 at h;split at h
    all_goals first | (cases h;trivial) | (cases h;done)
   ·cases h
  ·cases h
 ·repeat' (split at h)
  all_goals first | (cases h;trivial) | (cases h;done)
 ·repeat' (split at h)
  all_goals first | (cases h;trivial) | (cases h;done)
 ·repeat' (split at h)
  all_goals first | (cases h;trivial) | (cases h;done)
 ·repeat' (split at h)
  all_goals first | (cases h;trivial) | (cases h;done)
 ·cases ht
 ·repeat' (split at h)
  all_goals first | (cases h;trivial) | (cases h;done)
 ·split at h
  ·cases h;trivial
  ·cases h
 ·split at h
  ·unfold Vx at h;split at h
   ·split at h
    ·split at h
     ·unfold UY at h;split at h
      all_goals first | (cases h;trivial) | (cases h;done)
     ·cases h
    ·cases h
   ·split at h
    ·unfold Xo at h;split at h
     all_goals first | (cases h;trivial) | (cases h;done)
    ·cases h
   ·split at h
    ·unfold Xm at h;split at h
     all_goals first | (cases h;trivial) | (cases h;done)
    ·cases h
   ·cases h
  ·cases h
 ·cases h
theorem xP {op:BinOp} {t:TypeId} {x y d:DV} {vc:Prop} (h:R6 P op t x y=some (d,vc)):vc:=by
 unfold R6 at h;split at h
 ·split at h
  all_goals first | (cases h;trivial) | (cases h;done)
 ·split at h
  all_goals first | (cases h;trivial) | (cases h;done)
 ·cases h
theorem lf {op:Op} {d:DV} {vc:Prop} (h:Qa P S op=some (d,vc)) (ht:KF S op=true):vc:=by
 unfold Qa at h;split at h
 ·unfold UW at h
  repeat' (split at h)
  all_goals first | (cases h;trivial) | (cases h;done)
 ·cases ht
 ·unfold VT at h
  repeat' (split at h)
  all_goals first | (cases h;trivial) | (cases h;done)
 ·cases ht
 ·split at h
  ·rename_i r hr;cases h;exact xP hr
  ·exact dz h ht
 ·exact dz h ht
theorem Tx (R:AY P Γ N S ρ a w) {ops:Array Oper} {co:List (Nat×DV)} {o:Oper} {S':St} {vs:List Prop} {Di:List (Nat×DV)} (h:QQ P ops S co o=some (S',vs,Di)) (hv:Bb vs):
 S'.h=S.h/\ ((Region.wanted o (yielded ops a.tmps)=true/\ ∃ v,(∀ W,Keep N w W -> (execOp a.eval o).run P W= .ok (.value v) W)/\ AY P Γ N S' ρ (a.put o.dst v) w)∨(Region.wanted o (yielded ops a.tmps)=false/\ AY P Γ N S' ρ (a.put o.dst undef) w)):=by
 unfold QQ at h;split at h
 ·cases h
 ·rename_i hw;cases h;exact ⟨rfl,.inr ⟨KD R hw,Hn R _ S5⟩⟩
 ·rename_i hw;split at h
  ·cases h
  ·rename_i d vc hp;split at h;rename_i d' Bc jk Ri;cases h
   have gN:vc/\ Bb Bc:=by
    by_cases ht:KF S o.op=true
    ·rw [zi ht] at hv;exact ⟨lf hp ht,hv⟩
    ·rw [zr ht] at hv;exact hv
   obtain ⟨v,g1,g2⟩:=po R o hp gN.1;exact ⟨rfl,.inl ⟨KD R hw,v,g1,Hn R _ (Z9 Ri gN.2 g2)⟩⟩
theorem Ty {ops:Array Oper} {Q:Act -> Prop}: ∀ (l:List Oper) {S:St} {a:Act} {co:List (Nat×DV)} {S':St} {vs:List Prop} {Di:List (Nat×DV)},AY P Γ N S ρ a w -> QR P ops l S co=some (S',vs,Di) -> Bb vs ->
 (∀ a',S'.h=S.h -> AY P Γ N S' ρ a' w -> a'.defers=a.defers -> Q a') -> wpQuiet P ops (fun w'=>∃ x:Sv w,w'=x.W) Q l a
 | [],S,a,co,S',vs,Di,R,h,_,hQ=>by
  cases h;exact hQ a rfl R rfl
 | o::rest,S,a,co,S',vs,Di,R,h,hv,hQ=>by
  simp only [QR] at h;split at h
  ·cases h
  ·rename_i S1 CV SR h1;split at h
   ·cases h
   ·rename_i S2 Eo co2 h2;cases h;obtain ⟨Be,CE⟩:=C6.1 hv;obtain ⟨e1,hs⟩:=Tx R h1 Be;unfold wpQuiet;have DC: ∀ v,(a.put o.dst v).defers=a.defers:=fun v=>by cases ho:o.dst <;> simp [Act.put]
    rcases hs with ⟨hw,v,g1,g2⟩ | ⟨hw,g2⟩
    ·rw [zi hw];refine ⟨v,?_,Ty rest g2 h2 CE fun a' q1 q2 q3=>hQ a' (q1.trans e1) q2 (q3.trans (DC v))⟩;rintro W ⟨x,rfl⟩;unfold Oper.quietAt;rw [g1 x.W (Keep.ofExt x.le)];exact ⟨rfl,rfl⟩
    ·rw [zr (by rw [hw];exact zBo)];exact Ty rest g2 h2 CE fun a' q1 q2 q3=>hQ a' (q1.trans e1) q2 (q3.trans (DC undef))
theorem B0.append {M:Nat -> Prop} {l l':List DV} {t t':Array Value} (h:B0 M w ρ l t) (h':B0 M w ρ l' t'):B0 M w ρ (l++l') (t++t'):=by
 refine ⟨by simp [h.1,h'.1],fun i hi=>?_⟩;rcases zA2 i l.length with hl | hl
 ·have:=h.2 i hl;have ht:i<t.size:=by rw [←h.1];exact hl
  simp only [u8,zAJ] at this ⊢;rw [zAC hl,zBL ht];exact this
 ·have A3:i-l.length<l'.length:=by simp at hi;omega
  have:=h'.2 _ A3;have ht:t.size<=i:=by rw [←h.1];exact hl
  simp only [u8,zAJ] at this ⊢;rw [zAN hl,Array.getElem?_append_right ht,←h.1];exact this
theorem oA {g:Nat} {args:Array Value} {fn:Func} (Jr:P.funcs[g]? =some fn) (Jl:fn.name≠ "runtime.NumGoroutine") (ZV:fn.body.isSome=true):(callFunc g args).run P w= .ok (.enter g args) w:=by
 have vJ:fn.body.isNone=false:=by cases hb:fn.body <;> simp [hb] at ZV ⊢
 have vI:(fn.name== "runtime.NumGoroutine")=false:=by simpa using Jl
 unfold callFunc;rw [z7,show Sem.run P program w= .ok P w from rfl];simp only [Result.andThen,Jr,vI,vJ,zAa,zBY];rfl
theorem yZ (R:AY P Γ N S ρ a w) {c:Call} {f:Operand} {g m:Nat} {cap:Nat -> DV} {d:DV} {h':DH} {ext:Bool} (o:Oper) (ho:o.op= .call c) (hc:c.callee= .value f) (hf:AW S.fr f= .fn g m cap)
 (hE:ES P Γ g (c.args.toList.map (AW S.fr)++(List.range m).map cap) S.h d h' ext):BJ P (execOp a.eval o) w (DM P Γ N S.h ρ w ext d h'):=by
 obtain ⟨⟨fn,Jr,Jl,ZV⟩,hE⟩:=hE;have hr:=BZ R f;rw [hf] at hr;obtain ⟨lb,hv,hs,K0⟩:=hr;refine .inr (.inr ⟨g,c.args.map a.eval++lb,w,?_,hE N ρ w _ R.hr (B0.append ⟨by simp,fun i hi=>?_⟩ ⟨by simp [hs],fun i hi=>?_⟩)⟩)
 ·unfold execOp;rw [ho]
  show ((resolve a.eval c o.type)>>=fun d=>invoke d.target d.args).run P w=_
  unfold resolve;rw [hc];simp only [Deferred.ofValue,hv];have he:((pure { target:=.fn (.func g) lb,args:=#[]++Array.map a.eval c.args }:Sem Deferred)>>=fun d=>invoke d.target d.args).run P w=(callFunc g (#[]++Array.map a.eval c.args++lb)).run P w:=rfl;rw [he,oA Jr Jl ZV];simp
 ·have A3:i<c.args.size:=by simpa using hi
  have:=BZ R c.args[i];simp [A3,this]
 ·have A3:i<m:=by simpa using hi
  obtain ⟨u,g1,g2⟩:=K0 i A3;simp [A3,g1,g2]
theorem aa (R:AY P Γ N S ρ a w) {calls:List (DV×DH×Bool)} {o:Oper} {d:DV} {h':DH} {vs:List Prop} {ext:Bool} {SU:List (DV×DH×Bool)} (h:PG P Γ S calls o.op=some (d,h',vs,ext,SU)) (hv:Bb vs):
 BJ P (execOp a.eval o) w (DM P Γ N S.h ρ w ext d h'):=by
 unfold PG at h;split at h
 ·rename_i t x ho;split at h
  ·rename_i l hl;cases h;exact ye R hl o ho true
  ·cases h
 ·rename_i t ho;split at h
  ·rename_i i hi;split at h
   ·rename_i z hz;split at h
    ·rename_i YS;cases h;exact zK R hi hz YS o ho true
    ·cases h;exact zJ R hi hz o ho true
   ·cases h
  ·cases h
 ·rename_i t len parts ho;split at h
  ·rename_i k e i z hk;split at h
   ·rename_i hc;simp only [zm,zAP] at hc;split at h
    ·rename_i ob hb;cases h;exact yc R hk hc.1 hc.2 hb o ho true
    ·cases h
   ·cases h
  ·cases h
 ·rename_i t x y ho;split at h
  ·rename_i n e i hT;split at h
   ·rename_i k1 m k2 m' hx hy;cases h;obtain ⟨⟨rfl,v1,v2⟩,_⟩:=hv;exact qy R hT hx hy ⟨v1,v2⟩ o ho true
   ·cases h
  split at h
  ·rename_i k e i z hk;split at h
   ·rename_i DD;split at h
    ·rename_i k1 n k2 n' hx hy;cases h;obtain ⟨⟨rfl,v1,v2⟩,_⟩:=hv;exact qx R hk hx hy ⟨v1,v2⟩ (by simpa using DD) o ho true
    ·cases h
   ·cases h
  ·cases h
 ·rename_i t x y ho;split at h
  ·rename_i h1 vc hs;cases h;exact cL R hs hv.1 o ho
  ·cases h
 ·rename_i c ho;split at h
  ·rename_i hc;split at h
   ·rename_i x y ha;split at h
    ·rename_i t t' ht;split at h
     ·rename_i e;subst e;split at h
      ·rename_i d1 h1 vc Za;cases h;exact zC R Za hv.1 o ho hc ha ht
      ·cases h
     ·cases h
    ·cases h
   ·cases h
  ·rename_i f hc;split at h
   ·rename_i g m cap d1 h1 ext1 rest hf;cases h;exact yZ R o ho hc hf hv.1
   ·cases h
  ·cases h
 ·split at h
  ·rename_i hm;cases h;exact qw R o hm hv
  ·cases h
theorem LE (hF:Du F P) {o:Oper} (hd: ∀ c,o.op≠.defer c) {G:Value -> World -> Prop} (h:BJ P (execOp a.eval o) w G) {K:Act -> World -> Prop} {Q:Exit -> Act -> World -> Prop} (hK: ∀ v w',G v w' -> K (a.put o.dst v) w'):o.wpIn F 0 P a w K Q:=by
 refine ⟨fun f _=>hF.fn f,?_⟩;rw [zBq _ _ _ hd];rcases h with ⟨v,w',h1,h2⟩ | ⟨w',h1,h2⟩ | ⟨f,args,w',h1,h2⟩
 ·rw [h1];exact hK v w' h2
 ·rw [h1];exact hK undef w' h2
 ·rw [h1];refine ⟨fun hx=>(by rw [hF.dep] at hx;cases hx),(hF.calls h2).mono ?_⟩;rintro e CI ⟨v,rfl,hG⟩;exact hK v CI hG
theorem aL (hF:Du F P) (R:AY P Γ N S ρ a w) {ops:Array Oper} {Ao:Bs} {o:Oper} (hd: ∀ c,o.op≠.defer c) {S':St} {vs:List Prop} {ext:Bool} {CP:Bs} (h:M8 P Γ ops S Ao o=some (S',vs,ext,CP)) (hv:Bb vs)
 {K:Act -> World -> Prop} {Q:Exit -> Act -> World -> Prop} (hK: ∀ ρ' a' w',AY P Γ N S' ρ' a' w' -> Dr S.h ρ w S'.h ρ' w' -> a'.defers=a.defers -> (ext=true -> Au w w') -> K a' w'):
 if Region.wanted o (yielded ops a.tmps) then o.wpIn F 0 P a w K Q else (∀ f,o.about P w a.eval=some f -> F.fn f)/\ K (a.put o.dst undef) w:=by
 have DC: ∀ v,(a.put o.dst v).defers=a.defers:=fun v=>by cases ho:o.dst <;> simp [Act.put]
 unfold M8 at h;split at h
 ·cases h
 ·rename_i hw;cases h;rw [zr (by rw [KD R hw];exact zBo)];exact ⟨fun f _=>hF.fn f,hK ρ _ _ (Hn R _ S5) (Dr.refl _ _ _) (DC _) fun _=>Au.refl w⟩
 ·rename_i hw;rw [zi (KD R hw)];split at h
  ·rename_i S1 CV wl hM;cases h;exact LE hF hd (cx R hM hv) fun v w' ⟨⟨ρ',g1,g2⟩,_⟩=>hK ρ' _ _ g1 g2 (DC v) fun e=>by cases e
  split at h
  ·rename_i S1 CV hM;cases h;exact LE hF hd (cK R hM hv) fun v w' ⟨⟨ρ',g1,g2⟩,_⟩=>hK ρ' _ _ g1 g2 (DC v) fun e=>by cases e
  split at h
  ·cases h
  ·rename_i d h1 CV ext1 calls Zb;split at h;rename_i d' Bc Di Ri;split at h
   ·cases h
   ·rename_i S2 WN My GM;cases h;obtain ⟨Be,Yh⟩:=C6.1 hv;obtain ⟨CE,Md⟩:=C6.1 Yh;refine LE hF hd (aa R Zb Be) fun v w' G=>?_
    obtain ⟨ρ',g1,g2⟩:=Oc R o.dst G (d':=d') fun M ρ' hr=>Z9 Ri CE hr
    obtain ⟨g3,g4⟩:=Zp _ GM Md P Γ N ρ' _ _ g1;exact hK ρ' _ _ g3 (g2.trans ⟨g4,fun _ _ h=>h⟩) (DC v) G.ext
theorem K3 (hF:Du F P) {ops:Array Oper} (Ay:D5 ops=true) {Q:Exit -> Act -> World -> Prop}: ∀ (l:List Oper) (_: ∀ o∈l,o∈ops) {S:St} {ρ:List AI} {a:Act} {w:World} {Ao:Bs} {S':St} {vs:List Prop} {CP:Bs},
 AY P Γ N S ρ a w -> Eg P Γ ops l S Ao=some (S',vs,CP) -> Bb vs ->
 (∀ ρ' a' w',AY P Γ N S' ρ' a' w' -> Dr S.h ρ w S'.h ρ' w' -> a'.defers=a.defers -> Q .normal a' w') -> wpListIn F 0 P ops Q l a w
 | [],_,S,ρ,a,w,Ao,S',vs,CP,R,h,_,hQ=>by
  cases h;exact hQ ρ a w R (Dr.refl _ _ _) rfl
 | o::rest,hl,S,ρ,a,w,Ao,S',vs,CP,R,h,hv,hQ=>by
  have hd: ∀ c,o.op≠.defer c:=by
   obtain ⟨j,hj,e⟩:=Array.getElem_of_mem (hl o (by simp));exact Hy Ay (j:=j) (by rw [zAV hj,e])
  have EA: ∀ o∈rest,o∈ops:=fun o ho=>hl o (by simp [ho])
  have DC: ∀ v,(a.put o.dst v).defers=a.defers:=fun v=>by cases ho:o.dst <;> simp [Act.put]
  simp only [Eg] at h;unfold wpListIn;split at h
  ·split at h
   ·cases h
   ·rename_i S1 CV ext1 L5 h1;split at h
    ·cases h
    ·rename_i S2 Eo HF h2;cases h;obtain ⟨Be,CE⟩:=C6.1 hv;exact aL hF R hd h1 Be fun ρ' a' w' R' st EC _=>K3 hF Ay rest EA R' h2 CE fun ρ'' GS CI F8 Ec H9=>hQ ρ'' GS CI F8 (st.trans Ec) (H9.trans EC)
  ·split at h
   ·cases h
   ·rename_i S1 CV SR h1;split at h
    ·cases h
    ·rename_i S2 Eo HF h2;cases h;obtain ⟨Be,CE⟩:=C6.1 hv;obtain ⟨e1,hs⟩:=Tx R h1 Be
     have go: ∀ v,AY P Γ N S1 ρ (a.put o.dst v) w -> wpListIn F 0 P ops Q rest (a.put o.dst v) w:=fun v R'=>
      K3 hF Ay rest EA R' h2 CE fun ρ'' GS CI F8 Ec H9=>hQ ρ'' GS CI F8 (by rw [←e1];exact Ec) (H9.trans (DC v))
     rcases hs with ⟨hw,v,g1,g2⟩ | ⟨hw,g2⟩
     ·rw [zi hw];refine ⟨fun f _=>hF.fn f,?_⟩;rw [zBq _ _ _ hd,g1 w (Keep.ofExt (Au.refl w))];exact go v g2
     ·rw [zr (by rw [hw];exact zBo)];exact ⟨fun f _=>hF.fn f,go undef g2⟩
theorem XT {ops:Array Oper}: ∀ (l:List Nat),∀ o∈E9 ops l,o∈ops
 | [],o,h=>by simp [E9] at h
 | i::l,o,h=>by
  simp only [E9] at h;split at h
  ·rename_i o' ho;rcases z8.1 h with rfl | h
   ·exact zBE ho
   ·exact XT l o h
  ·exact XT l o h
theorem gT (hF:Du F P) {ops:Array Oper} (Ay:D5 ops=true) {Q:Exit -> Act -> World -> Prop}: ∀ (EL:List (List Nat×Nat)) (last tail:List Nat) {S:St} {ρ:List AI} {a:Act} {w:World} {Ao:Bs} {S':St} {vs:List Prop} {CP:Bs},
 (tail.all fun t=>decide (t<ops.size))=true -> AY P Γ N S ρ a w -> hseq P Γ ops EL last tail S Ao=some (S',vs,CP) -> Bb vs ->
 (∀ ρ' a' w',AY P Γ N S' ρ' a' w' -> Dr S.h ρ w S'.h ρ' w' -> a'.defers=a.defers -> Q .normal a' w') -> Rg F 0 P ops Q EL last tail a w
 | [],last,tail,S,ρ,a,w,Ao,S',vs,CP,ht,R,h,hv,hQ=>by
  simp only [hseq] at h;split at h
  ·cases h
  ·rename_i S1 CV SR h1;split at h
   ·cases h
   ·rename_i S2 Eo HF h2;cases h;obtain ⟨Be,CE⟩:=C6.1 hv;refine vp ht (Ty _ R h1 Be fun a' e1 R' EC=>?_);exact K3 hF Ay _ (XT tail) R' h2 CE fun ρ'' GS CI F8 Ec H9=>hQ ρ'' GS CI F8 (by rw [←e1];exact Ec) (H9.trans EC)
 | (G6,i)::Fs,last,tail,S,ρ,a,w,Ao,S',vs,CP,ht,R,h,hv,hQ=>by
  simp only [hseq] at h;split at h
  ·cases h
  ·rename_i S1 CV SR h1;split at h
   ·cases h
   ·rename_i o ho;split at h
    ·cases h
    ·rename_i S2 Eo ext HF h2;split at h
     ·cases h
     ·split at h
      ·cases h
      ·rename_i S3 PS Ns h3;cases h;obtain ⟨Be,Cn⟩:=C6.1 hv;obtain ⟨CE,Md⟩:=C6.1 Cn
       show wpQuiet _ _ _ _ _ _
       refine Ty _ R h1 Be fun a' e1 R' EC=>?_
       unfold wpOpIn;simp only [ho];refine aL hF R' (Hy Ay ho) h2 CE fun ρ'' GS CI F8 Ec H9 Iy=>?_
       rw [e1] at Ec;exact ⟨Iy rfl,gT hF Ay Fs last tail ht F8 h3 Md fun ρ3 a3 w3 R3 NS vv=>hQ ρ3 a3 w3 R3 (Ec.trans NS) (vv.trans (H9.trans EC))⟩
end
end Go.Proofs.YtgkhhfnhacibcaaGreatDoor
namespace Go.Proofs.YtgkhhfnhacibcaaGreatDoor
abbrev zBT:=@Nat.zero_le
end Go.Proofs.YtgkhhfnhacibcaaGreatDoor
namespace Go.Proofs.YtgkhhfnhacibcaaGreatDoor
open Go.RowKit
def EI (L:Nat) (ρ ρ':List AI):Prop:=∀ (k:Nat) (p:AI),k<L -> ρ[k]? =some p -> ρ'[k]? =some p
theorem EI.refl (L:Nat) (ρ:List AI):EI L ρ ρ:=fun _ _ _ h=>h
theorem EI.trans {L:Nat} {a b c:List AI} (h:EI L a b) (k:EI L b c):EI L a c:=fun i p hi hp=>k i p hi (h i p hi hp)
structure Bd (F:Fence) (B:Option Nat) (w:World):Prop where
 le: ∀ b,B=some b -> b<=w.heap.size
 rd: ∀ l,F.round=some l -> ∃ r,w.heap[l]? =some (.loop r)
theorem Bd.step {P:Program} {Γ:Ax} {N:Nat -> Prop} {h h':DH} {ρ ρ':List AI} {F:Fence} {B:Option Nat} {w w':World} (b:Bd F B w) (H:BP P Γ N h ρ w) (st:A9 h ρ w h' ρ' w'):Bd F B w':=
 ⟨fun x e=>zt (b.le x e) st.upd.size,fun l hl=>by
  obtain ⟨r,hr⟩:=b.rd l hl;refine ⟨r,(st.upd.block l (zj.1 hr).1 ?_).trans hr⟩;rintro ⟨k,o,p,h1,h2,h3⟩;obtain ⟨_,_,c,t,z,h4⟩:=H.cel k o p l h1 h2 h3;rw [hr] at h4;cases h4;cases t⟩
theorem Bd.wide {B:Nat} {w:World} (h:B<=w.heap.size):Bd Fence.wide (some B) w:=⟨fun b e=>by cases e;exact h,fun l hl=>by cases hl⟩
theorem Bd.none {w:World}:Bd Fence.wide none w:=⟨fun b e=>(by cases e),fun l hl=>by cases hl⟩
def NF:Option Nat -> List Deferred -> World -> Prop
 | none,ds,_=>ds= []
 | some B,ds,w=>EH B ds w
structure BU (P:Program) (Γ:Ax) (L:Nat) where
 I:(Nat -> Prop) -> DH -> List AI -> World -> Prop
 st: ∀ {N:Nat -> Prop} {h:DH} {ρ:List AI} {w:World} {h':DH} {ρ':List AI} {w':World},I N h ρ w -> BP P Γ N h ρ w -> BP P Γ N h' ρ' w' -> A9 h ρ w h' ρ' w' -> EI L ρ ρ' -> I N h' ρ' w'
def Pi (P:Program) (Γ:Ax) (L:Nat) (N0:Nat -> Prop) (h0:DH) (ρ0:List AI) (w0:World):BU P Γ L where
 I:=fun N h ρ w=>N=N0/\ A9 h0 ρ0 w0 h ρ w/\ EI L ρ0 ρ
 st:=fun ⟨e,s,k⟩ _ _ st k'=>⟨e,s.trans st,k.trans k'⟩
abbrev QY (P:Program) (Γ:Ax) (L:Nat):=Exit -> St -> BU P Γ L -> Prop
def QE {P:Program} {Γ:Ax} {L:Nat} (Q:QY P Γ L):Exit -> St -> BU P Γ L -> Prop
 | .panic _,_,_=>False
 | .outgrown,_,_=>False
 | e,S,Y=>Q e S Y
def Tr (P:Program) (Γ:Ax) (F:Fence) (B:Option Nat) (L:Nat) (Y:BU P Γ L) (c:Code) (S:St) (Q:QY P Γ L):Prop:=
 ∀ N ρ a w,AY P Γ N S ρ a w -> Y.I N S.h ρ w -> NF B a.defers w -> Bd F B w ->
  c.wpIn F 0 P (fun e a' w'=>∃ S' ρ' N' Y',QE Q e S' Y'/\ AY P Γ N' S' ρ' a' w'/\ Y'.I N' S'.h ρ' w'/\ NF B a'.defers w'/\ Bd F B w') a w
def BI (L:Nat) (S S':St):Prop:=∀ P Γ N ρ a w,AY P Γ N S ρ a w -> ∃ ρ',AY P Γ N S' ρ' a w/\ A9 S.h ρ w S'.h ρ' w/\ EI L ρ ρ'
theorem BI.refl (L:Nat) (S:St):BI L S S:=fun _ _ _ ρ _ _ R=>⟨ρ,R,A9.refl _ _ _,EI.refl _ _⟩
theorem BI.trans {L:Nat} {A B C:St} (h:BI L A B) (k:BI L B C):BI L A C:=fun P Γ N ρ a w R=>by
 obtain ⟨ρ1,R1,s1,k1⟩:=h P Γ N ρ a w R;obtain ⟨ρ2,R2,s2,k2⟩:=k P Γ N ρ1 a w R1;exact ⟨ρ2,R2,s1.trans s2,k1.trans k2⟩
section
variable {P:Program} {Γ:Ax} {N:Nat -> Prop} {S:St} {F:Fence} {B:Option Nat} {L:Nat} {Y:BU P Γ L} {Q Q':QY P Γ L}
theorem QE.mono (h: ∀ e S Y,Q e S Y -> Q' e S Y) {e:Exit} {S:St} (hq:QE Q e S Y):QE Q' e S Y:=by
 cases e <;> first | exact hq | exact h _ _ _ hq
theorem Tr.mono {c:Code} (h:Tr P Γ F B L Y c S Q) (hq: ∀ e S Y,Q e S Y -> Q' e S Y):Tr P Γ F B L Y c S Q':=fun N ρ a w R y m b=>
 zBj (h N ρ a w R y m b) fun _ _ _ ⟨S',ρ',N',Y',h1,h2⟩=>⟨S',ρ',N',Y',h1.mono hq,h2⟩
theorem Tr.weaken {c:Code} {S':St} (hS:BI L S S') (h:Tr P Γ F B L Y c S' Q):Tr P Γ F B L Y c S Q:=fun N ρ a w R y m b=>by
 obtain ⟨ρ1,R1,s1,k1⟩:=hS P Γ N ρ a w R;exact h N ρ1 a w R1 (Y.st y R.hr R1.hr s1 k1) m b
theorem Qv {ρ ρ':List AI} {h':DH} {ds:List Deferred} {w w':World} (H:BP P Γ N S.h ρ w) (st:A9 S.h ρ w h' ρ' w') (m:NF B ds w):NF B ds w':=by
 cases B with
 | none=>exact m
 | some B=>
 refine EH.upd st.upd m fun k _ hk e=>?_
 obtain ⟨i,o,p,h1,h2,h3⟩:=hk;obtain ⟨_,_,c,t,z,h4⟩:=H.cel i o p k h1 h2 h3;rw [h4] at e;cases e;cases t
theorem Tr.skip (h:Q .normal S Y):Tr P Γ F B L Y .skip S Q:=fun N ρ _ _ R y m b=>wpIn_skip ⟨S,ρ,N,Y,h,R,y,m,b⟩
theorem Tr.ret (h:Q .ret S Y):Tr P Γ F B L Y .ret S Q:=fun N ρ _ _ R y m b=>wpIn_ret ⟨S,ρ,N,Y,h,R,y,m,b⟩
theorem Tr.exit {id:Nat} (h:Q (.exit id) S Y):Tr P Γ F B L Y (.exit id) S Q:=fun N ρ _ _ R y m b=>wpIn_exit ⟨S,ρ,N,Y,h,R,y,m,b⟩
def Pd (K:St -> BU P Γ L -> Prop) (Q:QY P Γ L):QY P Γ L
 | .normal,S,Y=>K S Y
 | e,S,Y=>Q e S Y
theorem Tr.seq {x y:Code} (h:Tr P Γ F B L Y x S (Pd (fun S' Y'=>Tr P Γ F B L Y' y S' Q) Q)):Tr P Γ F B L Y (.seq x y) S Q:=fun N ρ a w R y m b=>by
 refine wpIn_seq (zBj (h N ρ a w R y m b) ?_);rintro e a' w' ⟨S',ρ',N',Y',h1,h2,h3,h4,h5⟩;cases e with
 | normal=>exact h1 N' ρ' a' w' h2 h3 h4 h5
 | ret=>exact ⟨S',ρ',N',Y',h1,h2,h3,h4,h5⟩
 | exit id=>exact ⟨S',ρ',N',Y',h1,h2,h3,h4,h5⟩
 | goto t=>exact ⟨S',ρ',N',Y',h1,h2,h3,h4,h5⟩
 | panic c=>exact h1.elim
 | outgrown=>exact h1.elim
theorem Tr.cond {c:Operand} {x y:Code} {b:Bool} (hc:AW S.fr c= .bool b) (h1:b=true -> Tr P Γ F B L Y x S Q) (h2:b=false -> Tr P Γ F B L Y y S Q):Tr P Γ F B L Y (.cond c x y) S Q:=fun N ρ a w R y m bb=>by
 have hr:=BZ R c;rw [hc] at hr;refine wpIn_cond (t:=b) hr ?_;cases b
 ·exact h2 rfl N ρ a w R y m bb
 ·exact h1 rfl N ρ a w R y m bb
theorem kq {F:Fence} {n:Nat} {P:Program} {Q:Exit -> Act -> World -> Prop} {a:Act} {w:World} {c:Code} (h:c.wpIn F n P (Exit.noGoto Q) a w):(Code.scope c).wpIn F n P Q a w:=by
 intro b k cs tf hb hr;have h0:(lone (b.atR a (.code (.scope c)::k)) cs w).fenced P F:=fenced_calm hb hr rfl;have s0:step P (lone (b.atR a (.code (.scope c)::k)) cs w)= .next (lone (b.atR a (.code c:: .inScope c::k)) cs w):=step_lone_go (by simp [stepG,stepG.exec,Frame.atR]);obtain ⟨e,a₁,w₁,hq,Oa⟩:=h b (.inScope c::k) cs tf hb hr;have s1:step P (lone (b.atR a₁ (.inScope c::k)) cs w₁)= .next (lone (b.atR a₁ k) cs w₁):=step_lone_go (by simp [stepG,stepG.exec,Frame.atR]);cases e with
 | normal=>exact ⟨.normal,a₁,w₁,hq,.head h0 s0 (StepsIn.trans Oa (.one (fenced_calm hb hr rfl) s1))⟩
 | exit id=>exact ⟨.exit id,a₁,w₁,hq,fun k' hk=>.head h0 s0 (Oa.1 k' hk),fun Cw hk=>let ⟨k₁,h1,h2⟩:=Oa.2 Cw hk;⟨k₁,h1,.head h0 s0 h2⟩⟩
 | goto l=>exact hq.elim
 | ret=>exact ⟨_,a₁,w₁,hq,.of_steps (.one h0 s0) Oa⟩
 | panic ch=>exact ⟨_,a₁,w₁,hq,.of_steps (.one h0 s0) Oa⟩
 | outgrown=>exact ⟨_,a₁,w₁,hq,.of_steps (.one h0 s0) Oa⟩
def qh (Q:QY P Γ L):QY P Γ L
 | .goto _,_,_=>False
 | e,S,Y=>Q e S Y
theorem Tr.scope {c:Code} (h:Tr P Γ F B L Y c S (qh Q)):Tr P Γ F B L Y (.scope c) S Q:=fun N ρ a w R y m b=>by
 refine kq (zBj (h N ρ a w R y m b) ?_);rintro e a' w' ⟨S',ρ',N',Y',h1,h2⟩;cases e with
 | goto l=>exact h1.elim
 | _=>exact ⟨S',ρ',N',Y',h1,h2⟩
theorem Tr.label {l:Nat} (h:Q .normal S Y):Tr P Γ F B L Y (.label l) S Q:=fun N ρ a w R y m b=>wpIn_label ⟨S,ρ,N,Y,h,R,y,m,b⟩
def yg (id:Nat) (Q:QY P Γ L):QY P Γ L
 | .exit i,S,Y=>if i=id then Q .normal S Y else Q (.exit i) S Y
 | e,S,Y=>Q e S Y
theorem Tr.block {id:Nat} {c:Code} (h:Tr P Γ F B L Y c S (yg id Q)):Tr P Γ F B L Y (.block id c) S Q:=fun N ρ a w R y m b=>by
 refine wpIn_block (zBj (h N ρ a w R y m b) ?_);rintro e a' w' ⟨S',ρ',N',Y',h1,h2⟩;cases e with
 | exit i=>
  show if i=id then _ else _
  by_cases e:i=id
  ·rw [zi e];have h1:(if i=id then Q .normal S' Y' else Q (.exit i) S' Y'):=h1;rw [zi e] at h1;exact ⟨S',ρ',N',Y',h1,h2⟩
  ·rw [zr e];have h1:(if i=id then Q .normal S' Y' else Q (.exit i) S' Y'):=h1;rw [zr e] at h1;exact ⟨S',ρ',N',Y',h1,h2⟩
 | normal=>exact ⟨S',ρ',N',Y',h1,h2⟩
 | ret=>exact ⟨S',ρ',N',Y',h1,h2⟩
 | goto t=>exact ⟨S',ρ',N',Y',h1,h2⟩
 | panic c=>exact h1.elim
 | outgrown=>exact h1.elim
theorem Tr.loop {c:Code} (I:Nat -> St -> BU P Γ L -> Prop) (n:Nat) (h0:I n S Y) (h: ∀ n S Y,I n S Y -> Tr P Γ F B L Y c S (Pd (fun S' Y'=>∃ n',n'<n/\ I n' S' Y') Q)):Tr P Γ F B L Y (.loop c) S Q:=fun N ρ a w R y m b=>by
 refine wpIn_loop_ghost (fun k a' w'=>∃ S' ρ' N' Y',I k S' Y'/\ AY P Γ N' S' ρ' a' w'/\ Y'.I N' S'.h ρ' w'/\ NF B a'.defers w'/\ Bd F B w') n ⟨S,ρ,N,Y,h0,R,y,m,b⟩ ?_;rintro k a' w' ⟨S',ρ',N',Y',h1,h2,h3,h4,h5⟩;refine zBj (h k S' Y' h1 N' ρ' a' w' h2 h3 h4 h5) ?_;rintro e a2 w2 ⟨S2,ρ2,N2,Y2,g1,g2,g3,g4,g5⟩;cases e with
 | normal=>
  obtain ⟨n',AK,hI⟩:=g1;exact ⟨n',AK,S2,ρ2,N2,Y2,hI,g2,g3,g4,g5⟩
 | ret=>exact ⟨S2,ρ2,N2,Y2,g1,g2,g3,g4,g5⟩
 | exit id=>exact ⟨S2,ρ2,N2,Y2,g1,g2,g3,g4,g5⟩
 | goto t=>exact ⟨S2,ρ2,N2,Y2,g1,g2,g3,g4,g5⟩
 | panic c=>exact g1.elim
 | outgrown=>exact g1.elim
theorem AY.ext {ρ:List AI} {a:Act} {w w':World} (R:AY P Γ N S ρ a w) (hE:Au w w'):AY P Γ N S ρ a w':=⟨R.hr.ext hE,R.fr.out (BO.ext ρ hE)⟩
theorem Tr.done {S':St} {e:Exit} {ρ ρ':List AI} {a a':Act} {w w':World} (R:AY P Γ N S ρ a w) (y:Y.I N S.h ρ w) (m:NF B a.defers w) (b:Bd F B w) (hk:QE Q e S' Y) (R':AY P Γ N S' ρ' a' w') (st:A9 S.h ρ w S'.h ρ' w') (ZF:EI L ρ ρ') (EC:a'.defers=a.defers):
 ∃ S' ρ' N' Y',QE Q e S' Y'/\ AY P Γ N' S' ρ' a' w'/\ Y'.I N' S'.h ρ' w'/\ NF B a'.defers w'/\ Bd F B w':=
 ⟨S',ρ',N,Y,hk,R',Y.st y R.hr R'.hr st ZF,by rw [EC];exact Qv R.hr st m,b.step R.hr st⟩
theorem BI.fr {fr Mz:List DV} {h:DH} (hl:Mz.length=fr.length) (hd: ∀ i,i<fr.length -> AM (fr.getD i .any) (Mz.getD i .any)):BI L ⟨fr,h⟩ ⟨Mz,h⟩:=fun P Γ N ρ a w R=>
 ⟨ρ,⟨R.hr,⟨by rw [hl];exact R.fr.1,fun i hi=>hd i (by rw [←hl];exact hi) _ _ _ _ (R.fr.2 i (by rw [←hl];exact hi))⟩⟩,A9.refl _ _ _,EI.refl _ _⟩
theorem AM.refl (d:DV):AM d d:=fun _ _ _ _ h=>h
theorem AM.any (d:DV):AM d .any:=fun _ _ _ _ _=>trivial
theorem AM.int {k:IntKind} {a b:Int} (h:a=b):AM (.int k a) (.int k b):=by rw [h];exact AM.refl _
theorem AM.bool {a b:Bool} (h:a=b):AM (.bool a) (.bool b):=by rw [h];exact AM.refl _
theorem AM.ints_nil:AM .nils (.ints []):=fun M w ρ v h=>⟨none,0,h,zAF _,zBT _,fun j hj=>absurd hj (zy j)⟩
theorem AM.sl_nil (m:Nat) (f:Nat -> Nat -> DV):AM .nils (.sl m 0 f):=fun M w ρ v h=>⟨none,0,h,zAF _,zBT _,fun i j hi=>absurd hi (zy i)⟩
def forget (live:List Nat) (fr:List DV):List DV:=(fr.zipIdx).map fun x=>if live.contains x.2 then x.1 else .any
theorem wv (live:List Nat) (fr:List DV):(forget live fr).length=fr.length:=by simp [forget]
theorem ww (live:List Nat) (fr:List DV) {i:Nat} (hi:i<fr.length):(forget live fr).getD i .any=if live.contains i then fr.getD i .any else .any:=by
 simp [forget,hi]
theorem BI.forget (live:List Nat) (fr:List DV) (h:DH):BI L ⟨fr,h⟩ ⟨forget live fr,h⟩:=BI.fr (wv _ _) fun i hi=>by
 rw [ww live fr hi];split
 ·exact AM.refl _
 ·exact AM.any _
def Ct:List Nat -> Nat -> Option Nat
 | [],_=>none
 | x::σ,k=>if x=k then some 0 else (Ct σ k).map (· +1)
def E6 (σ:List Nat):DV -> DV
 | .ref k j=>match Ct σ k with
  | some k'=>.ref k' j
  | none=>.any
 | .mse k m off n=>match Ct σ k with
  | some k'=>.mse k' m off n
  | none=>.any
 | .mri k i=>match Ct σ k with
  | some k'=>.mri k' i
  | none=>.any
 | .msl k m off n=>match Ct σ k with
  | some k'=>.msl k' m off n
  | none=>.any
 | .mp k m i j=>match Ct σ k with
  | some k'=>.mp k' m i j
  | none=>.any
 | .it k=>match Ct σ k with
  | some k'=>.it k'
  | none=>.any
 | .agg m f=>.agg m fun j=>((List.range m).map fun i=>E6 σ (f i)).getD j .any
 | .tup m f=>.tup m fun j=>((List.range m).map fun i=>E6 σ (f i)).getD j .any
 | .fn g m c=>.fn g m fun j=>((List.range m).map fun i=>E6 σ (c i)).getD j .any
 | d=>d
def Tk (σ:List Nat):Option DO -> Option DO
 | some (.cells l)=>some (.cells (l.map (E6 σ)))
 | o=>o
def FH (σ:List Nat) (S:St):St:=⟨S.fr.map (E6 σ),σ.map fun k=>Tk σ (S.h.getD k none)⟩
theorem If: ∀ {σ:List Nat} {k k':Nat},Ct σ k=some k' -> σ[k']? =some k
 | [],_,_,h=>by cases h
 | x::σ,k,k',h=>by
  unfold Ct at h;split at h
  ·rename_i e;cases h;subst e;rfl
  ·cases hr:Ct σ k with
   | none=>rw [hr] at h;cases h
   | some i=>
    rw [hr] at h;have e:k'=i+1:=(zo h).symm;subst e;have:=If hr;simpa using this
theorem pP {f:Nat -> DV} {m j:Nat} (hj:j<m):((List.range m).map f).getD j .any=f j:=by simp [hj]
theorem XI {M:Nat -> Prop} {w:World} {ρ:List AI} {f:Nat -> DV} {m j:Nat} {u:Value} (hj:j<m) (h:AJ M w (f j) ρ u):AJ M w (((List.range m).map f).getD j .any) ρ u:=by rw [pP hj];exact h
theorem ol {M M':Nat -> Prop} {w:World} {σ:List Nat} {ρ ρ':List AI} (hM: ∀ b,M' b -> M b) (hρ: ∀ (k k':Nat) (p:AI),σ[k']? =some k -> ρ[k]? =some p -> ρ'[k']? =some p): ∀ (d:DV) {v:Value},AJ M w d ρ v -> AJ M' w (E6 σ d) ρ' v:=by
 have low: ∀ (d:DV) {v:Value},AJ M w d [] v -> AJ M' w d [] v:=fun d v h=>h.out d ⟨fun _ _ _ _=>rfl,fun b hb=>.inl (hM b hb),fun k p hk=>by simp at hk⟩
 intro d
 induction d with
 | any=>intro v _;trivial
 | nils=>intro v h;exact h
 | int k n=>intro v h;exact h
 | bool b=>intro v h;exact h
 | str s=>intro v h;exact h
 | ints l=>intro v h;exact low (.ints l) h
 | bools l=>intro v h;exact low (.bools l) h
 | sl m n f _=>intro v h;exact low (.sl m n f) h
 | fp m f _=>intro v h;exact low (.fp m f) h
 | agg m f ih=>
  rintro v ⟨cs,e,hs,h⟩;exact ⟨cs,e,hs,fun j hj=>let ⟨u,h1,h2⟩:=h j hj;⟨u,h1,XI hj (ih j h2)⟩⟩
 | tup m f ih=>
  rintro v ⟨cs,e,hs,h⟩;exact ⟨cs,e,hs,fun j hj=>let ⟨u,h1,h2⟩:=h j hj;⟨u,h1,XI hj (ih j h2)⟩⟩
 | fn g m c ih=>
  rintro v ⟨cs,e,hs,h⟩;exact ⟨cs,e,hs,fun j hj=>let ⟨u,h1,h2⟩:=h j hj;⟨u,h1,XI hj (ih j h2)⟩⟩
 | ref k j=>
  rintro v ⟨p,hp,e⟩;simp only [E6];cases hk:Ct σ k with
  | none=>trivial
  | some k'=>exact ⟨p,hρ k k' p (If hk) hp,e⟩
 | msl k m off n=>
  rintro v ⟨p,cap,hp,r⟩;simp only [E6];cases hk:Ct σ k with
  | none=>trivial
  | some k'=>exact ⟨p,cap,hρ k k' p (If hk) hp,r⟩
 | mp k m i j=>
  rintro v ⟨p,hp,e⟩;simp only [E6];cases hk:Ct σ k with
  | none=>trivial
  | some k'=>exact ⟨p,hρ k k' p (If hk) hp,e⟩
 | yl l=>intro v h;exact h
 | cst u=>intro v h;exact h
 | mse k m off n=>
  rintro v ⟨p,a,cap,hp,r⟩;simp only [E6];cases hk:Ct σ k with
  | none=>trivial
  | some k'=>exact ⟨p,a,cap,hρ k k' p (If hk) hp,r⟩
 | mri k i=>
  rintro v ⟨p,vs,hp,r⟩;simp only [E6];cases hk:Ct σ k with
  | none=>trivial
  | some k'=>exact ⟨p,vs,hρ k k' p (If hk) hp,r⟩
 | it k=>
  rintro v ⟨p,hp,e⟩;simp only [E6];cases hk:Ct σ k with
  | none=>trivial
  | some k'=>exact ⟨p,hρ k k' p (If hk) hp,e⟩
def Xk:AI:=⟨0,0,0,undef,fun _=>False⟩
theorem BI.compact (σ:List Nat) (S:St) (h1:σ.Nodup) (h2: ∀ k∈σ,k<S.h.length) (h3: ∀ k,k<L -> σ[k]? =some k):BI L S (FH σ S):=fun P Γ N ρ a w R=>by
 obtain ⟨ρ',Fv⟩: ∃ ρ',ρ'=σ.map fun k=>ρ.getD k Xk:=⟨_,rfl⟩
 have IF: ∀ {k':Nat} {p:AI},ρ'[k']? =some p -> ∃ k,σ[k']? =some k/\ ρ[k]? =some p:=fun {k' p} h=>by
  rw [Fv,z6] at h;cases hk:σ[k']? with
  | none=>rw [hk] at h;cases h
  | some k=>
   rw [hk] at h;have AK:k<ρ.length:=by rw [R.hr.len];exact h2 k (zAX hk)
   refine ⟨k,rfl,?_⟩;simp [AK] at h;simp [AK,h]
 have put: ∀ (k k':Nat) (p:AI),σ[k']? =some k -> ρ[k]? =some p -> ρ'[k']? =some p:=fun k k' p hk hp=>by
  rw [Fv,z6,hk];simp [u8,hp]
 have H8: ∀ {k':Nat} {o':DO},(FH σ S).h[k']? =some (some o') -> ∃ k o,σ[k']? =some k/\ S.h[k]? =some (some o)/\ Tk σ (some o)=some o':=fun {k' o'} h=>by
  show ∃ k o,_
  have h:(σ.map fun k=>Tk σ (S.h.getD k none))[k']? =some (some o'):=h;rw [z6] at h;cases hk:σ[k']? with
  | none=>rw [hk] at h;cases h
  | some k=>
   rw [hk] at h;have AK:k<S.h.length:=h2 k (zAX hk);have h:Tk σ (S.h.getD k none)=some o':=zo h;have e:S.h.getD k none=S.h[k]:=by simp [AK]
   rw [e] at h;cases ho:S.h[k] with
   | none=>rw [ho] at h;cases h
   | some o=>rw [ho] at h;exact ⟨k,o,rfl,by simp [AK,ho],h⟩
 have hM: ∀ b,MO (FH σ S).h ρ' b -> MO S.h ρ b:=by
  rintro b ⟨k',o',p,g1,g2,g3⟩;obtain ⟨k,o,e1,e2,_⟩:=H8 g1;obtain ⟨k2,e3,e4⟩:=IF g2;have:k2=k:=zo (e3.symm.trans e1);subst this;exact ⟨k2,o,p,e2,e4,g3⟩
 have Zd: ∀ b,MS N (FH σ S).h ρ' b -> MS N S.h ρ b:=fun b hb=>hb.imp id (hM b)
 have O:BO (MS N S.h ρ) w [] (MS N (FH σ S).h ρ') w []:=⟨fun _ _ _ _=>rfl,fun b hb=>.inl (Zd b hb),fun k p hk=>by simp at hk⟩;have low: ∀ (d:DV) {v:Value},AJ (MS N S.h ρ) w d ρ v -> AJ (MS N (FH σ S).h ρ') w (E6 σ d) ρ' v:=fun d v h=>ol Zd put d h
 refine ⟨ρ',⟨⟨by simp [Fv,FH],fun k' o' CZ=>?_,fun k' o' p b g1 g2 g3=>?_,fun i i' o1 o2 p1 p2 b AQ g1 g2 g3 g4 g5 g6=>?_,R.hr.nlt,R.hr.gi⟩,⟨by simp [FH,R.fr.1],fun i hi=>?_⟩⟩,⟨AN.refl _ w,fun b hb=>.inl (hM b hb)⟩,fun k p hk hp=>put k k p (h3 k hk) hp⟩
 ·obtain ⟨k,o,e1,e2,e3⟩:=H8 CZ;obtain ⟨p,hp,hr⟩:=R.hr.obj k o e2;refine ⟨p,put k k' p e1 hp,?_⟩;cases o with
  | cells l=>
   cases e3
   show AU w p (l.map (E6 σ)).length _
   rw [zAl];refine AU.out hr rfl fun j u hj hu=>?_
   have:(l.map (E6 σ)).getD j .any=E6 σ (l.getD j .any):=by simp [hj]
   rw [this];exact low _ hu
  | ints l=>cases e3;exact AU.out hr rfl fun j u _ hu=>hu
  | bools l=>cases e3;exact AU.out hr rfl fun j u _ hu=>hu
  | arr m n f=>cases e3;exact AU.out hr rfl fun j u _ hu=>AJ.out _ O hu
  | iter encs=>
   cases e3;obtain ⟨gf,lb,Rd,q1,q2,q3,q4⟩:=hr;exact ⟨gf,lb,Rd,q1,q2,fun b hb=>⟨fun hm=>(q3 b hb).1 (Zd b hm),(q3 b hb).2⟩,q4⟩
  | mo x=>cases e3;exact hr
 ·obtain ⟨k,o,e1,e2,_⟩:=H8 g1;obtain ⟨k2,e3,e4⟩:=IF g2;have:k2=k:=zo (e3.symm.trans e1);subst this;exact R.hr.cel k2 o p b e2 e4 g3
 ·obtain ⟨k,o,e1,e2,_⟩:=H8 g1;obtain ⟨k2,o2,e3,e4,_⟩:=H8 g2;obtain ⟨k3,e5,e6⟩:=IF g3;obtain ⟨k4,e7,e8⟩:=IF g4;have:k3=k:=zo (e5.symm.trans e1);subst this;have:k4=k2:=zo (e7.symm.trans e3);subst this;refine R.hr.dis k3 k4 o o2 p1 p2 b (fun e=>AQ ?_) e2 e4 e6 e8 g5 g6;subst e;exact (List.getElem?_inj (zp.1 e5).1 h1).1 (e5.trans e7.symm)
 ·have A3:i<S.fr.length:=by simpa [FH] using hi
  have:(FH σ S).fr.getD i .any=E6 σ (S.fr.getD i .any):=by simp [FH,A3]
  rw [this];exact low _ (R.fr.2 i A3)
end
end Go.Proofs.YtgkhhfnhacibcaaGreatDoor
namespace Go.Proofs.YtgkhhfnhacibcaaGreatDoor
open Go.RowKit
def dZ (P:Program) (S:St):ResultVar -> Option DV
 | .tmp t=>some (S.fr.getD t .any)
 | .cell x t=>match S.fr.getD x .any with
  | .ref k j=>match MK P S t (.ref k j) with
   | some (d,_)=>some d
   | none=>none
  | _=>none
def Ng (P:Program) (S:St):List ResultVar -> Option (List DV)
 | []=>some []
 | r::rs=>match dZ P S r with
  | some d=>match Ng P S rs with
   | some ds=>some (d::ds)
   | none=>none
  | none=>none
def Ib:List DV -> DV
 | [d]=>d
 | ds=>.tup ds.length fun j=>ds.getD j .any
section
variable {P:Program} {Γ:Ax} {N:Nat -> Prop} {S:St} {ρ:List AI} {a:Act} {w:World}
theorem rJ {t:TypeId} {k j:Nat} {d:DV} {vc:Prop} (h:MK P S t (.ref k j)=some (d,vc)):vc:=by
 unfold MK at h
 repeat' (split at h)
 all_goals first | (cases h;trivial) | (cases h;done) | (simp_all;done)
def Tj (tmps:Array Value):ResultVar -> Sem Value
 | .tmp t=>pure (tmps.getD t undef)
 | .cell x t=>do loadVar t (←asAddr (tmps.getD x undef))
theorem da (R:AY P Γ N S ρ a w): ∀ (rs:List ResultVar) (ds:List DV),Ng P S rs=some ds -> ∃ vs:List Value,(rs.mapM (Tj a.tmps)).run P w= .ok vs w/\ vs.length=ds.length/\ ∀ i,i<ds.length -> AJ (MS N S.h ρ) w (ds.getD i .any) ρ (vs.getD i undef)
 | [],ds,h=>by
  cases h;exact ⟨[],rfl,rfl,fun i hi=>absurd hi (zy i)⟩
 | r::rs,ds,h=>by
  simp only [Ng] at h;split at h
  ·rename_i d hd;split at h
   ·rename_i xZ FE;cases h;obtain ⟨vs,h1,h2,h3⟩:=da R rs xZ FE
    obtain ⟨v,g1,g2⟩: ∃ v,(Tj a.tmps r).run P w= .ok v w/\ AJ (MS N S.h ρ) w d ρ v:=by
     unfold dZ at hd;split at hd
     ·cases hd;exact ⟨_,rfl,R.fr.at _⟩
     ·rename_i x t;split at hd
      ·rename_i k j e;split at hd
       ·rename_i d' vc hl;cases hd;have hx:=R.fr.at x;rw [e] at hx;obtain ⟨v,q1,q2⟩:=fa R hx hl (rJ hl);obtain ⟨p,hp,hv⟩:=hx;have q:=q1 w (Keep.ofExt (Au.refl w));rw [hv,W6] at q;refine ⟨v,?_,q2⟩
        show (do loadVar t (←asAddr (a.tmps.getD x undef)):Sem Value).run P w=_
        rw [hv];exact q
       ·cases hd
      ·cases hd
    refine ⟨v::vs,?_,by simp [h2],fun i hi=>?_⟩
    ·rw [List.mapM_cons,z7,g1];simp only [Result.andThen,z7,h1,zB5]
    ·cases i with
     | zero=>exact g2
     | succ i=>exact h3 i (by simpa using hi)
   ·cases h
  ·cases h
theorem dY (R:AY P Γ N S ρ a w) {fn:Func} {ds:List DV} (h:Ng P S fn.results.toList=some ds): ∃ v,(results fn a.tmps).run P w= .ok v w/\ AJ (MS N S.h ρ) w (Ib ds) ρ v:=by
 obtain ⟨vs,h1,h2,h3⟩:=da R _ _ h
 have hm:(fn.results.mapM (Tj a.tmps)).run P w= .ok vs.toArray w:=by
  rw [Array.mapM_eq_mapM_toList,←bind_pure_comp,z7,h1];rfl
 have Uz:(results fn a.tmps).run P w= .ok (if h:vs.toArray.size=1 then vs.toArray[0] else .tuple vs.toArray) w:=by
  show (do let vs←fn.results.mapM (Tj a.tmps);pure (if h:vs.size=1 then vs[0] else .tuple vs):Sem Value).run P w=_
  rw [z7,hm];rfl
 refine ⟨_,Uz,?_⟩
 match ds,vs,h2,h3 with
 | [],[],_,_=>exact ⟨#[],rfl,rfl,fun j hj=>absurd hj (zy j)⟩
 | [d],[v],_,h3=>exact h3 0 (by simp)
 | d::d'::ds,v::v'::vs,h2,h3=>
  have: ¬ ((v::v'::vs).toArray.size=1):=by simp
  rw [dif_neg this];refine ⟨_,rfl,by simpa using h2,fun j hj=>?_⟩;have BH:j<(v::v'::vs).length:=by rw [h2];exact hj
  exact ⟨(v::v'::vs).getD j undef,by simp only [zCS,u8,zf BH];rfl,h3 j hj⟩
def Qr (h:DH):Prop:=∀ (k:Nat) (encs:List (Array Value)),h[k]? ≠some (some (.iter encs))
theorem AY.shut (R:AY P Γ N S ρ a w) (hi:Qr S.h) {B:Nat} (hB:Γ.ng<=B) {W:World} (hs:Su B w W):AY P Γ N S ρ a W:=by
 have nc: ∀ {b:Nat},C8 w b -> W.heap[b]? =w.heap[b]? :=fun {b} ⟨c,t,z,h⟩=>
  hs.block b (zj.1 h).1 fun hx=>by rw [h] at hx;cases hx.2;cases t
 have O:BO (MS N S.h ρ) w ρ (MS N S.h ρ) W ρ:=⟨fun b _ _ ⟨_,_,_,hc⟩=>nc (.cells hc),fun b h=>.inl h,fun _ _ h=>h⟩
 have hr: ∀ {p:AI} {n:Nat} {Rw:Nat -> Value -> Prop},AU w p n Rw -> W.heap[p.blk]? =w.heap[p.blk]? :=fun {p n Rw} h=>by
  obtain ⟨_,cs,t,h2,_⟩:=h;exact nc (.cells h2)
 refine ⟨⟨R.hr.len,fun k o hk=>?_,fun k o p b h1 h2 h3=>?_,R.hr.dis,fun b hb=>⟨zu (R.hr.nlt b hb).1 hs.size,(R.hr.nlt b hb).2⟩,Γ.st _ _ R.hr.gi (hs.mono fun i _ hx=>zt hB hx.1)⟩,R.fr.out O⟩
 ·obtain ⟨p,hp,ho⟩:=R.hr.obj k o hk;refine ⟨p,hp,?_⟩;cases o with
  | cells l=>exact AU.out ho (hr ho) fun j u _ hu=>AJ.out _ O hu
  | ints l=>exact AU.out ho (hr ho) fun j u _ hu=>hu
  | bools l=>exact AU.out ho (hr ho) fun j u _ hu=>hu
  | arr m n f=>exact AU.out ho (hr ho) fun j u _ hu=>AJ.out _ O.nil hu
  | iter encs=>exact absurd hk (hi k encs)
  | mo x=>exact LR.out ho fun b hb AK=>nc (R.hr.cel k _ p b hk hp hb).2.2
 ·obtain ⟨g1,g2,c,t,z,g3⟩:=R.hr.cel k o p b h1 h2 h3;exact ⟨g1,g2,c,t,z,(nc ⟨c,t,z,g3⟩).trans g3⟩
theorem A9.shut {h0 h:DH} {ρ0 ρ:List AI} {w0 w W:World} (st:A9 h0 ρ0 w0 h ρ w) (hs:Su w0.heap.size w W):A9 h0 ρ0 w0 h ρ W:=
 ⟨st.upd.comp hs fun i hi hx=>absurd hx.1 (by omega),st.grow⟩
theorem B0.anys (M:Nat -> Prop) (w:World) (ρ:List AI) (n:Nat):B0 M w ρ (List.replicate n .any) (Array.replicate n undef):=
 ⟨by simp,fun i hi=>by
  have:(List.replicate n DV.any).getD i .any= .any:=by
   rw [u8,zAm];split <;> rfl
  rw [this];trivial⟩
def Hd (d:DV):Prop:=∀ (M:Nat -> Prop) (w:World) (ρ:List AI) (v:Value),AJ M w d ρ v -> AJ M w d [] v
def zc (L:Nat) (S:St) (rs:List DV) (d:DV) (h':DH):Prop:=
 (AM (Ib rs) d/\ S.h=h')∨(Qr S.h/\ AM (Ib rs) d/\ Hd d/\ L<=S.h.length/\ (FH (List.range L) S).h=h')
def Fe (P:Program) (fn:Func) (L:Nat) (d:DV) (h':DH) (e:Exit) (S':St):Prop:=
 (e= .normal∨e= .ret)/\ ∃ Cd,BI L S' Cd/\ ∃ rs,Ng P Cd fn.results.toList=some rs/\ zc L Cd rs d h'
theorem ES.of_tr {f:Nat} {fn:Func} {c:Code} {ds:List DV} {h:DH} {d:DV} {h':DH} {ext:Bool} (hf:P.funcs[f]? =some fn) (hb:fn.body=some c) (Jl:fn.name≠ "runtime.NumGoroutine") (hni:Qr h')
 (H: ∀ (B:Nat) (N:BU P Γ h.length),Tr P Γ Fence.wide (some B) h.length N c ⟨ds++List.replicate (fn.ntmps-ds.length) .any,h⟩ (fun e S Y=>Y=N/\ Fe P fn h.length d h' e S)) (Iy:ext=true -> h= []):ES P Γ f ds h d h' ext:=by
 refine ⟨⟨fn,hf,Jl,by rw [hb];rfl⟩,fun N ρ w args HR B9=>?_⟩;refine yY w.heap.size hf hb ?_;have Af:ds.length=args.size:=B9.1
 have R:AY P Γ N ⟨ds++List.replicate (fn.ntmps-ds.length) .any,h⟩ ρ { tmps:=args++Array.replicate (fn.ntmps-args.size) undef,defers:=[] } w:=
  ⟨HR,B0.append B9 (by rw [Af];exact B0.anys _ _ _ _)⟩
 have:=H w.heap.size (Pi P Γ h.length N h ρ w) N ρ _ w R ⟨rfl,A9.refl _ _ _,EI.refl _ _⟩ trivial (Bd.wide (zAF _));refine wpIn_wide.1 (zBj this ?_);rintro e a' w' ⟨S',ρ',N',Y',h1,h2,h3,h4,h5⟩
 have key:Y'=Pi P Γ h.length N h ρ w -> Fe P fn h.length d h' e S' -> EH w.heap.size a'.defers w'/\ ∀ W,Su w.heap.size w' W -> ∃ v,(results fn a'.tmps).run P W= .ok v W/\ ∃ v',Ending.returned v= .returned v'/\ DM P Γ N h ρ w ext d h' v' W:=by
  rintro rfl ⟨_,Cd,Bx,rs,Uw,hd | ⟨hi,hd,hn,hl,hh⟩⟩
  all_goals
   obtain ⟨e0,h3,h5⟩:=h3;have e0:=e0.symm;subst e0
  ·obtain ⟨hd,rfl⟩:=hd;refine ⟨h4,fun W hW=>?_⟩;obtain ⟨ρ'',F8,Wk,YD⟩:=Bx P Γ N ρ' a' w' h2;have RW:=F8.shut hni (Γ.lo _ HR.gi) hW;obtain ⟨v,g1,g2⟩:=dY RW Uw;have st:A9 h ρ w Cd.h ρ'' W:=(h3.trans Wk).shut hW;refine ⟨v,g1,v,rfl,⟨⟨ρ'',RW.hr,hd _ _ _ _ g2,st,fun k p hp=>?_⟩,fun he=>?_⟩⟩
   ·have hk:k<h.length:=by rw [←HR.len];exact (zp.1 hp).1
    exact YD k p hk (h5 k p hk hp)
   ·have:=Iy he;subst this;exact st.upd.toExt fun i _ ⟨k,o,p,q1,_⟩=>by simp at q1
  ·refine ⟨h4,fun W hW=>?_⟩;obtain ⟨ρ'',F8,Wk,YD⟩:=Bx P Γ N ρ' a' w' h2;have RW:=F8.shut hi (Γ.lo _ HR.gi) hW;obtain ⟨v,g1,g2⟩:=dY RW Uw;have st:A9 h ρ w Cd.h ρ'' W:=(h3.trans Wk).shut hW;obtain ⟨ρ3,R3,NS,k3⟩:=BI.compact (L:=h.length) (List.range h.length) Cd List.nodup_range (fun k hk=>zu (zw.1 hk) hl) (fun k hk=>by simp [hk]) P Γ N ρ'' a' W RW;rw [hh] at NS;have ke:=R3.hr;rw [hh] at ke;refine ⟨v,g1,v,rfl,⟨⟨ρ3,ke,?_,st.trans NS,fun k p hp=>?_⟩,fun he=>?_⟩⟩
   ·have r0:=hn _ _ _ _ (hd _ _ _ _ g2);have r1:AJ (MS N h' ρ3) W d [] v:=AJ.out _ ⟨fun _ _ _ _=>rfl,fun b hb=>hb.elim (fun hx=>.inl (.inl hx)) fun hx=>(NS.grow b hx).imp .inr id,fun _ _ hx=>by simp at hx⟩ r0;exact AJ.out _ ⟨fun _ _ _ _=>rfl,fun b hb=>.inl hb,fun _ _ hx=>by simp at hx⟩ r1
   ·have hk:k<h.length:=by rw [←HR.len];exact (zp.1 hp).1
    exact k3 k p hk (YD k p hk (h5 k p hk hp))
   ·have:=Iy he;subst this;exact (st.trans NS).upd.toExt fun i _ ⟨k,o,p,q1,_⟩=>by simp at q1
 cases e with
 | normal=>exact key h1.1 h1.2
 | ret=>exact key h1.1 h1.2
 | exit id=>exact absurd h1.2.1 (by simp)
 | goto t=>exact absurd h1.2.1 (by simp)
 | panic ch=>exact h1.elim
 | outgrown=>exact h1.elim
def GU (d:DV):Prop:=∀ (M M':Nat -> Prop) (w w':World) (ρ ρ':List AI) (v:Value),AJ M w d ρ v -> AJ M' w' d ρ' v
theorem Hd.agg {m:Nat} {f:Nat -> DV} (h: ∀ j,j<m -> Hd (f j)):Hd (.agg m f):=fun M w ρ _ ⟨cs,e,hs,hc⟩=>⟨cs,e,hs,fun j hj=>let ⟨u,h1,h2⟩:=hc j hj;⟨u,h1,h j hj M w ρ u h2⟩⟩
theorem Hd.tup {m:Nat} {f:Nat -> DV} (h: ∀ j,j<m -> Hd (f j)):Hd (.tup m f):=fun M w ρ _ ⟨cs,e,hs,hc⟩=>⟨cs,e,hs,fun j hj=>let ⟨u,h1,h2⟩:=hc j hj;⟨u,h1,h j hj M w ρ u h2⟩⟩
theorem GU.int (k:IntKind) (n:Int):GU (.int k n):=fun _ _ _ _ _ _ _ h=>h
theorem GU.bool (b:Bool):GU (.bool b):=fun _ _ _ _ _ _ _ h=>h
theorem GU.tup {m:Nat} {f:Nat -> DV} (h: ∀ j,j<m -> GU (f j)):GU (.tup m f):=fun M M' w w' ρ ρ' _ ⟨cs,e,hs,hc⟩=>⟨cs,e,hs,fun j hj=>let ⟨u,h1,h2⟩:=hc j hj;⟨u,h1,h j hj M M' w w' ρ ρ' u h2⟩⟩
theorem OM {M:Nat -> Prop} (hM: ∀ b,M b -> b<w.heap.size/\ Γ.ng<=b) (hg:Γ.gi w):BP P Γ M [] [] w:=
 ⟨rfl,fun k o hk=>by simp at hk,fun k o p b h1=>by simp at h1,fun k k' o o' p p' b _ h1=>by simp at h1,hM,hg⟩
theorem NG {M:Nat -> Prop} {b:Nat}:MS M [] [] b↔M b:=⟨fun h=>h.elim id fun ⟨k,o,p,h1,_⟩=>by simp at h1,.inl⟩
theorem ES.frame {f:Nat} {ds:List DV} {d:DV} (h0:ES P Γ f ds [] d [] true) (FE: ∀ x∈ds,Hd x) (h:DH):ES P Γ f ds h d h true:=by
 refine ⟨h0.1,fun N ρ w args HR B9=>?_⟩;refine (h0.2 (MS N h ρ) [] w args (OM (fun b hb=>HR.lt2 hb) HR.gi) ⟨B9.1,fun i hi=>?_⟩).mono ?_
 ·have hx:=FE (ds.getD i .any) (by simp [hi]);exact AJ.out _ (DB (fun b hb=>NG.1 hb) []) (hx _ _ _ _ (B9.2 i hi))
 ·rintro e w' ⟨v,rfl,⟨⟨ρ',g1,g2,g3,g4⟩,g5⟩⟩;have hE:=g5 rfl;have hρ:ρ'= []:=zAq (by rw [g1.len];rfl);subst hρ;exact ⟨v,rfl,⟨⟨ρ,HR.ext hE,Nh (AJ.out _ (DB (fun b hb=>NG.2 hb) []) g2),A9.ext hE,fun _ _ h=>h⟩,g5⟩⟩
def Ae (h:DH) (d d0:DV):Prop:=∀ (P:Program) (Γ:Ax) (N:Nat -> Prop) (ρ:List AI) (w:World) (v:Value),BP P Γ N h ρ w -> AJ (MS N h ρ) w d ρ v -> AJ (fun _=>False) w d0 [] v
theorem Ae.nref {h:DH} {d:DV} (hn:Hd d):Ae h d d:=fun _ _ _ _ _ _ _ hr=>AJ.out _ (DB (fun _ hb=>hb.elim) []) (hn _ _ _ _ hr)
theorem Ae.ints {h:DH} {k n:Nat} {l:List Int} (hk:h[k]? =some (some (.ints l))) (hn:n=l.length):Ae h (.msl k 1 0 n) (.ints l):=by
 rintro P Γ N ρ w v H ⟨p,cap,hp,e,g1,g2,_⟩;subst hn;obtain ⟨p',Av,hr⟩:=H.obj k _ hk;have ep:p'=p:=zo (Av.symm.trans hp);subst ep;refine ⟨_,cap,e,g1,g2,fun j hj=>⟨p'.blk,p'.off,by simp,id,?_⟩⟩;obtain ⟨u,e1,e2⟩:=AU.cell hr hj;rw [e1,e2]
theorem Ae.bools {h:DH} {k n:Nat} {l:List Bool} (hk:h[k]? =some (some (.bools l))) (hn:n=l.length):Ae h (.msl k 1 0 n) (.bools l):=by
 rintro P Γ N ρ w v H ⟨p,cap,hp,e,g1,g2,_⟩;subst hn;obtain ⟨p',Av,hr⟩:=H.obj k _ hk;have ep:p'=p:=zo (Av.symm.trans hp);subst ep;refine ⟨_,cap,e,g1,g2,fun j hj=>⟨p'.blk,p'.off,by simp,id,?_⟩⟩;obtain ⟨u,e1,e2⟩:=AU.cell hr hj;rw [e1,e2]
theorem Ae.ref {h:DH} {k m:Nat} {l:List DV} {f:Nat -> DV} (hk:h[k]? =some (some (.cells l))) (hm:m<=l.length) (hf: ∀ j,j<m -> Ae h (l.getD j .any) (f j)):Ae h (.ref k 0) (.fp m f):=by
 rintro P Γ N ρ w v H ⟨p,hp,e⟩;obtain ⟨p',Av,hr⟩:=H.obj k _ hk;have ep:p'=p:=zo (Av.symm.trans hp);subst ep;refine ⟨p'.blk,p'.off,e,fun j hj=>⟨id,?_⟩⟩;obtain ⟨u,e1,e2⟩:=AU.cell hr (j:=j) (by omega);exact ⟨u,e1,hf j hj P Γ N ρ w u H e2⟩
theorem ES.snap {f:Nat} {ds DI:List DV} {d:DV} (h0:ES P Γ f DI [] d [] true) (h:DH) (hl:DI.length=ds.length) (hs: ∀ i,i<ds.length -> Ae h (ds.getD i .any) (DI.getD i .any)) (hd:GU d):ES P Γ f ds h d h true:=by
 refine ⟨h0.1,fun N ρ w args HR B9=>?_⟩;refine (h0.2 (fun _=>False) [] w args (OM (fun b hb=>hb.elim) HR.gi) ⟨by rw [hl];exact B9.1,fun i hi=>?_⟩).mono ?_
 ·rw [hl] at hi;exact AJ.out _ (DB (fun b hb=>NG.1 hb) []) (hs i hi P Γ N ρ w _ HR (B9.2 i hi))
 ·rintro e w' ⟨v,rfl,⟨⟨ρ',g1,g2,g3,g4⟩,g5⟩⟩;have hE:=g5 rfl;exact ⟨v,rfl,⟨⟨ρ,HR.ext hE,hd _ _ _ _ _ _ _ g2,A9.ext hE,fun _ _ h=>h⟩,g5⟩⟩
end
end Go.Proofs.YtgkhhfnhacibcaaGreatDoor
namespace Go.Proofs.YtgkhhfnhacibcaaGreatDoor
open Go.RowKit
section
variable {F:Fence} {n:Nat} {P:Program} {ops:Array Oper} {Q:Exit -> Act -> World -> Prop}
def Gz (F:Fence) (n:Nat) (P:Program) (ops:Array Oper) (Q:Exit -> Act -> World -> Prop) (R:Nat -> World -> World -> Prop):Nat -> Array Bool -> Act -> World -> Prop
 | 0,AS,a,w=>(∀ j,j<ops.size -> AS.getD j true=true)/\ Q .normal a w
 | m+1,AS,a,w=>Region.ready .any ops AS≠[]/\ ∀ i∈Region.ready .any ops AS,wpOpIn F n P ops (NP Q) i (fun a' w'=>R i w w'/\ Gz F n P ops Q R m (AS.setIfInBounds i true) a' w') a w
theorem ar {R R':Nat -> World -> World -> Prop} (hR: ∀ i w w',R' i w w' -> R i w w'): ∀ (m:Nat) (AS:Array Bool) (a:Act) (w:World),Gz F n P ops Q R' m AS a w -> Gz F n P ops Q R m AS a w
 | 0,_,_,_,h=>h
 | m+1,_,_,_,h=>⟨h.1,fun i hi=>zBv (fun _ _ h'=>⟨hR _ _ _ h'.1,ar hR m _ _ _ h'.2⟩) (h.2 i hi)⟩
theorem oq {AS:Array Bool} (h: ∀ j,j<ops.size -> AS.getD j true=true):Region.ready .any ops AS= []:=by
 cases hr:Region.ready .any ops AS with
 | nil=>rfl
 | cons i l=>
  have hi:i∈Region.ready .any ops AS:=by rw [hr];simp
  obtain ⟨h1,oi,h2,_⟩:=zB0.1 hi;rw [h i (zj.1 h2).1] at h1;cases h1
theorem a6 {R:Nat -> World -> World -> Prop}: ∀ (m:Nat) (AS:Array Bool) (a:Act) (w:World),Gz F n P ops Q R m AS a w -> wpAnyIn F n P .any ops Q m AS a w
 | 0,_,_,_,h=>⟨oq h.1,h.2⟩
 | m+1,_,_,_,h=>⟨fun h0=>absurd h0 h.1,fun i hi=>zBv (fun a' w' h'=>a6 m _ a' w' h'.2) (aw (h.2 i hi))⟩
theorem ko (hF: ∀ f,F.fn f) (Ay:D5 ops=true) {R:Nat -> World -> World -> Prop} {T:World -> Prop} {i:Nat} {oi:Oper} {v:Value} (hi:ops[i]? =some oi) (RP: ∀ (j:Nat) (o:Oper) cs b,ops[j]? =some o -> o.op≠.select cs b) (iW: ∀ w,R i w w):
 ∀ (m:Nat) (AS:Array Bool) (a:Act) (w:World),F9 ops AS ->
  (∀ j oj,ops[j]? =some oj -> j≠i -> AS.getD j true=false -> (∀ e∈oj.after,Region.binds .any e=true -> e.on≠i) -> oi.apart ops oj=true) ->
  (∀ j,j<ops.size -> j≠i -> AS.getD j true=false -> Fi ops ops.size j i=false -> ∀ w w',T w -> R j w w' -> T w') ->
  i∈Region.ready .any ops AS -> YieldsIf P ops T oi v a -> T w ->
  Gz F n P ops Q R m (AS.setIfInBounds i true) (a.put oi.dst v) w -> Gz F n P ops Q R (m+1) AS a w:=by
 intro m
 induction m with
 | zero=>
  intro AS a w BL _ _ hr hy hS H;have Mn:=(zB0.1 hr).1;refine ⟨fun h=>(by rw [h] at hr;cases hr),fun j hj=>?_⟩
  by_cases EP:j=i
  ·subst EP;exact Sw hF (Hy Ay hi) hi hy hS ⟨iW w,H⟩
  ·exfalso
   obtain ⟨Iv,oj,FX,HU⟩:=zB0.1 hj;have OU:=(zj.1 FX).1;have:=H.1 j OU;rw [getD_set_ne true (zB2 EP),Iv] at this;cases this
 | succ m ih=>
  intro AS a w BL Rf hT hr hy hS H;have Mn:=(zB0.1 hr).1;refine ⟨fun h=>(by rw [h] at hr;cases hr),fun j hj=>?_⟩
  by_cases EP:j=i
  ·subst EP;exact Sw hF (Hy Ay hi) hi hy hS ⟨iW w,H⟩
  ·have h1:=H.2 j (ready_mono hj EP);obtain ⟨Iv,oj,FX,HU⟩:=zB0.1 hj;have OU:=(zj.1 FX).1
   have vE:Fi ops ops.size j i=false:=by
    cases hx:Fi ops ops.size j i with
    | false=>rfl
    | true=>
     have:=WM BL _ j i oj FX HU hx;rw [VL Mn] at this;cases this
   have ZA: ∀ e∈oj.after,Region.binds .any e=true -> e.on≠i:=fun e he hb OV=>by
    have h1:=HU e he hb;rw [OV,VL Mn] at h1;cases h1
   have h2:=av hF (Hy Ay FX) FX (Rf j oj FX EP Iv ZA) (fun cs b=>RP i oi cs b hi) (fun cs b=>RP j oj cs b FX) (fun c a w h=>NP.put c a _ _ w h) hy h1
   have un: ∀ {k:Nat},(AS.setIfInBounds j true).getD k true=false -> AS.getD k true=false:=fun {k} H5=>by
    by_cases Ra:j=k
    ·subst Ra;exact Iv
    ·rw [getD_set_ne true Ra] at H5;exact H5
   refine zBv (fun a' w' h3=>⟨h3.2.1,ih (AS.setIfInBounds j true) a' w' (BL.set hj) (fun k ok hk RX H5 Jk=>Rf k ok hk RX (un H5) Jk) (fun k Do RX H5 vY=>hT k Do RX (un H5) vY) (ready_mono hr (zB2 EP)) h3.1 (hT j OU EP Iv vE w w' hS h3.2.1) ?_⟩) h2;rw [Array.setIfInBounds_comm _ _ EP];exact h3.2.2
theorem kw {id:Nat} {a:Act} {w:World} {R:Nat -> World -> World -> Prop} (hm:P.follows .mixedOrders=true) (h:Gz F n P ops Q R ops.size (Array.replicate ops.size false) a w.drew):(Code.region id ops true).wpIn F n P Q a w:=
 wpIn_region_any hm (a6 _ _ _ _ h)
theorem yO:F9 ops (Array.replicate ops.size false):=fun j oj _ hl=>by
 exfalso
 rcases zA2 j ops.size with h | h
 ·simp [h] at hl
 ·simp [h] at hl
def Qc (ops:Array Oper) (i:Nat):Bool:=match ops[i]? with
 | some o=>Qb o.op
 | none=>false
def RZ (ops:Array Oper) (early:Nat -> Bool) (Z:Nat -> Nat -> Prop) (j:Nat) (w w':World):Prop:=(Qc ops j=true -> w'=w)/\ (early j=true -> AN (Z j) w w')
def Tm (ops:Array Oper) (early:Nat -> Bool) (i:Nat) (AS:Array Bool):Bool:=
 (Region.ready .any ops AS).contains i&&Region.free .any ops AS i&&Qc ops i&&
  ((List.range ops.size).all fun j=>AS.getD j true||j==i||Qc ops j||early j||Fi ops ops.size j i)
theorem de (hF: ∀ f,F.fn f) (Ay:D5 ops=true) (hs:Region.noSelect ops=true) {early:Nat -> Bool} {Z:Nat -> Nat -> Prop} {Zi:Nat -> Prop} {i m:Nat} {AS:Array Bool} {a:Act} {w:World} {oi:Oper} {v:Value} (hi:ops[i]? =some oi) (BL:F9 ops AS) (B8:Tm ops early i AS=true) (hZ: ∀ j,Fi ops ops.size j i=false -> ∀ b,Z j b -> Zi b)
 (hy:YieldsIf P ops (AN Zi w) oi v a) (h:Gz F n P ops Q (RZ ops early Z) m (AS.setIfInBounds i true) (a.put oi.dst v) w):Gz F n P ops Q (RZ ops early Z) (m+1) AS a w:=by
 simp only [Tm,zm,zq,zw,zAE,zAQ] at B8;obtain ⟨⟨⟨h1,h2⟩,h3⟩,h4⟩:=B8;refine ko hF Ay hi (Region.noSelect_spec hs) (fun w=>⟨fun _=>rfl,fun _=>AN.refl _ _⟩) m AS a w BL (Region.free_spec hi h2) (fun j hj EP H5 hw w1 w2 hT hR=>?_) (by simpa using h1) hy (AN.refl _ _) h;rcases h4 j hj with (((h | h) | h) | h) | h
 ·rw [H5] at h;cases h
 ·exact absurd h EP
 ·rw [hR.1 h];exact hT
 ·exact hT.trans ((hR.2 h).mono fun b _ hb=>hZ j hw b hb)
 ·rw [hw] at h;cases h
theorem aA {AS:Array Bool} {i:Nat} (BL:F9 ops AS) (h:(Region.ready .any ops AS).contains i=true):F9 ops (AS.setIfInBounds i true):=BL.set (by simpa using h)
end
end Go.Proofs.YtgkhhfnhacibcaaGreatDoor
namespace Go.Proofs.YtgkhhfnhacibcaaGreatDoor
abbrev zBV:=@List.mem_filter
end Go.Proofs.YtgkhhfnhacibcaaGreatDoor
namespace Go.Proofs.YtgkhhfnhacibcaaGreatDoor
open Go.RowKit
inductive ST where
 | fin (π live:List Nat)
 | rd (i:Nat) (t:ST)
 | ef (i:Nat) (t Gq:ST)
 | no
def Sn:ST -> List Nat
 | .ef i _ Gq=>i::Sn Gq
 | _=>[]
def Dk (ops:Array Oper) (early:List Nat):Bool -> Nat -> ST -> Array Bool -> Bool
 | false,0,.fin _ _,L=>(List.range ops.size).all fun j=>L.getD j true
 | false,m+1,.rd i t,L=>Tm ops (fun j=>early.contains j) i L&&Dk ops early false m t (L.setIfInBounds i true)
 | b,m+1,.ef i t Gq,L=>(b||Region.ready .any ops L==Sn (.ef i .no Gq))&&!Qc ops i&&Dk ops early false m t (L.setIfInBounds i true)&&Dk ops early true (m+1) Gq L
 | true,_,.no,_=>true
 | _,_,_,_=>false
def G5 (p:Nat -> Bool) (h:DH):DH:=(List.range h.length).map fun i=>if p i then h.getD i none else none
def rq (xs:List Nat) (h:DH):DH:=G5 (fun i=>!xs.contains i) h
def V8 (xs:List Nat) (h:DH):Bool:=xs.all fun k=>decide (h.length<=k)||(h.getD k none).isSome
def sA (h h':DH):Bool:=(List.range h.length).all fun k=>!(h.getD k none).isSome||(h'.getD k none).isSome
def KL (S:St) (o:Oper):Option Nat:=match o.op with
 | .store _ x _=>match AW S.fr x with
  | .ref k _=>some k
  | .mp k _ _ _=>some k
  | _=>none
 | _=>none
def cY (σ:List Nat) (L n:Nat):Bool:=decide σ.Nodup&&σ.all (fun k=>decide (k<n))&&(List.range L).all fun k=>decide (σ[k]? =some k)
def PO (xs:List (Nat×Nat)) (nw:List Nat):List Nat:=xs.map (·.2)++nw
def IZ (xs:List (Nat×Nat)) (nw:List Nat) (j:Nat):List Nat:=(xs.filter fun q=>q.1==j).map (·.2)++nw
def I6 (ops:Array Oper) (xs:List (Nat×Nat)) (nw:List Nat) (i:Nat):List Nat:=(xs.filter fun q=>!Fi ops ops.size q.1 i).map (·.2)++nw
def jT (early:List Nat) (xs:List (Nat×Nat)) (nw:List Nat) (S S1:St) (i:Nat) (o:Oper) (ext:Bool):Bool:=
 V8 (PO xs nw) S.h&&V8 (PO xs nw) S1.h&&((PO xs nw).all (fun k=>decide (k<S.h.length))||sA S.h S1.h)&&(!(early.contains i)||ext||(match KL S o with | some k=>(IZ xs nw i).contains k | none=>false))
def TJ (π:List Nat) (L0:Nat):List Nat:=List.range L0++π.map (· +L0)
def KG (P:Program) (Γ:Ax) (ops:Array Oper) (early:List Nat) (xs:List (Nat×Nat)) (nw:List Nat) (L0:Nat) (S':St):ST -> St -> Bs -> Option (List Prop×Bs)
 | .no,_,Ao=>some ([],Ao)
 | .fin π live,S,Ao=>if cY (TJ π L0) L0 S.h.length then some ([FH (TJ π L0) ⟨forget live S.fr,S.h⟩=S'],Ao) else none
 | .rd i t,S,Ao=>match ops[i]? with
  | none=>none
  | some o=>if V8 (I6 ops xs nw i) S.h then match QQ P ops ⟨S.fr,rq (I6 ops xs nw i) S.h⟩ Ao.co o with
   | none=>none
   | some (S1,vs,Di)=>match KG P Γ ops early xs nw L0 S' t ⟨S1.fr,S.h⟩ ⟨Ao.calls,Di,Ao.fz,Ao.tg⟩ with
    | none=>none
    | some (Bc,CP)=>some (vs++Bc,CP)
   else none
 | .ef i t Gq,S,Ao=>match ops[i]? with
  | none=>none
  | some o=>match M8 P Γ ops S Ao o with
   | none=>none
   | some (S1,vs,ext,L5)=>if jT early xs nw S S1 i o ext then
    match KG P Γ ops early xs nw L0 S' t S1 L5 with
    | none=>none
    | some (CV,HF)=>match KG P Γ ops early xs nw L0 S' Gq S HF with
     | none=>none
     | some (Eo,Ns)=>some (vs++(CV++Eo),Ns)
    else none
def B6 (ops:Array Oper) (early:List Nat) (t:ST):Prop:=(Dk ops early false ops.size t (Array.replicate ops.size false)&&Region.noSelect ops&&D5 ops)=true
def WW (P:Program) (Γ:Ax) (ops:Array Oper) (early:List Nat) (t:ST) (S:St) (Ao:Bs):Option (St×List Prop×Bs):=match Ao.tg with
 | []=>none
 | (ks,S')::rest=>match KG P Γ ops early ks (List.range' S.h.length ops.size) S.h.length S' t S ⟨Ao.calls,Ao.co,Ao.fz,rest⟩ with
  | none=>none
  | some (vs,CP)=>some (S',vs,CP)
theorem Of {p:Nat -> Bool} {h:DH} {i:Nat} {o:DO} (hi:(G5 p h)[i]? =some (some o)):h[i]? =some (some o)/\ p i=true:=by
 unfold G5 at hi;rw [z6] at hi;cases hr:(List.range h.length)[i]? with
 | none=>rw [hr] at hi;cases hi
 | some j=>
  have hj:i<h.length/\ i=j:=by
   have:=zp.1 hr;obtain ⟨h1,h2⟩:=this;simp at h1 h2;exact ⟨h1,h2⟩
  rw [hr] at hi;obtain ⟨h1,rfl⟩:=hj;have hi:(if p i then h.getD i none else none)=some o:=zo hi;split at hi
  ·exact ⟨by rw [u8,zf h1] at hi;rw [zf h1];exact congrArg some hi,by assumption⟩
  ·cases hi
theorem mU {p:Nat -> Bool} {h:DH}:(G5 p h).length=h.length:=by simp [G5]
theorem ir {p:Nat -> Bool} {h:DH} {k:Nat} (hp:p k=true) (hk:k<h.length):(G5 p h)[k]? =h[k]? :=by
 unfold G5;rw [z6,zBM hk];simp [hp,u8,hk]
section
variable {P:Program} {Γ:Ax} {N:Nat -> Prop} {S:St} {ρ:List AI} {a:Act} {w:World}
theorem AY.sel (R:AY P Γ N S ρ a w) (p:Nat -> Bool):AY P Γ (fun b=>N b∨∃ k o q,p k=false/\ S.h[k]? =some (some o)/\ ρ[k]? =some q/\ q.foot b) ⟨S.fr,G5 p S.h⟩ ρ a w:=by
 have hM: ∀ b,MS (fun b=>N b∨∃ k o q,p k=false/\ S.h[k]? =some (some o)/\ ρ[k]? =some q/\ q.foot b) (G5 p S.h) ρ b -> MS N S.h ρ b:=by
  rintro b ((h | ⟨k,o,q,h1,h2,h3,h4⟩) | ⟨k,o,q,h1,h2,h3⟩)
  ·exact .inl h
  ·exact .inr ⟨k,o,q,h2,h3,h4⟩
  ·exact .inr ⟨k,o,q,(Of h1).1,h2,h3⟩
 refine ⟨⟨by rw [mU];exact R.hr.len,fun i o hi=>?_,fun i o q b g1 g2 g3=>?_,fun i i' o1 o2 p1 p2 b AQ g1 g2 g3 g4 g5 g6=>R.hr.dis i i' o1 o2 p1 p2 b AQ (Of g1).1 (Of g2).1 g3 g4 g5 g6,?_,R.hr.gi⟩,R.fr.out (DB hM ρ)⟩
 ·obtain ⟨q,hq,hr⟩:=R.hr.obj i o (Of hi).1;exact ⟨q,hq,hr.out (DB hM ρ) (S:=fun _=>False) (AN.refl _ _) (fun _ h=>h.elim) fun _ _ _ h=>h⟩
 ·obtain ⟨hi,tv⟩:=Of g1;obtain ⟨c1,c2,c3⟩:=R.hr.cel i o q b hi g2 g3;refine ⟨c1,?_,c3⟩;rintro (h | ⟨k,o',q',h1,h2,h3,h4⟩)
  ·exact c2 h
  ·exact R.hr.dis i k o o' q q' b (fun e=>by subst e;rw [tv] at h1;cases h1) hi h2 g2 h3 g3 h4
 ·rintro b (h | ⟨k,o',q',h1,h2,h3,h4⟩)
  ·exact R.hr.nlt b h
  ·obtain ⟨c1,_,c,t,z,c3⟩:=R.hr.cel k o' q' b h2 h3 h4;exact ⟨(zj.1 c3).1,c1⟩
theorem AY.unsel {p:Nat -> Bool} {fr:List DV} (R0:BP P Γ N S.h ρ w) (R:B0 (MS (fun b=>N b∨∃ k o q,p k=false/\ S.h[k]? =some (some o)/\ ρ[k]? =some q/\ q.foot b) (G5 p S.h) ρ) w ρ fr a.tmps):AY P Γ N ⟨fr,S.h⟩ ρ a w:=by
 refine ⟨R0,R.out (DB (fun b hb=>?_) ρ)⟩;rcases hb with h | ⟨k,o,q,h1,h2,h3⟩
 ·exact .inl (.inl h)
 ·cases hp:p k with
  | false=>exact .inl (.inr ⟨k,o,q,hp,h1,h2,h3⟩)
  | true=>
   refine .inr ⟨k,o,q,?_,h2,h3⟩;rw [ir hp (zp.1 h1).1];exact h1
def Zs (xs:List Nat) (ρ:List AI) (w:World) (b:Nat):Prop:=(∃ k q,k∈xs/\ ρ[k]? =some q/\ q.foot b)∨w.heap.size<=b
theorem sB {xs:List Nat} (R:BP P Γ N S.h ρ w) (Mt:V8 xs S.h=true) {W:World} (hu:AN (Zs xs ρ w) w W):Keep (fun b=>N b∨∃ k o q,(!xs.contains k)=false/\ S.h[k]? =some (some o)/\ ρ[k]? =some q/\ q.foot b) w W:=by
 intro b o u hb hc;have AK:b<w.heap.size:=zBA w ⟨b,o,none⟩ hc;refine (jv (hu.block b AK ?_)).trans hc;rintro (⟨k,q,h1,h2,h3⟩ | h)
 ·have hk:k<S.h.length:=by rw [←R.len];exact (zp.1 h2).1
  have hx:=zq.1 Mt k h1;simp only [zAE,zAP] at hx;rcases hx with hx | hx
  ·omega
  ·cases hg:S.h.getD k none with
   | none=>rw [hg] at hx;cases hx
   | some ob=>exact hb (.inr ⟨k,ob,q,by simp [h1],getD_some hg,h2,h3⟩)
 ·omega
theorem Ot {ρ':Operand -> Value} {o:Oper} {t:TypeId} {x y:Operand} (ho:o.op= .store t x y) {nx:Next} {w w':World} (h:(execOp ρ' o).run P w= .ok nx w'):nx= .skip:=by
 unfold execOp at h;rw [ho] at h;have h:(Instr.storeAt t (ρ' x) (ρ' y)>>=fun _=>(pure .skip:Sem Next)).run P w= .ok nx w':=h;rw [z7] at h;cases hs:(Instr.storeAt t (ρ' x) (ρ' y)).run P w with
 | ok v w1=>rw [hs] at h;simp only [Result.andThen] at h;cases h;rfl
 | halt x w1=>rw [hs] at h;simp only [Result.andThen] at h;cases h
theorem BJ.store {ρ':Operand -> Value} {o:Oper} {t:TypeId} {x y:Operand} (ho:o.op= .store t x y) {w:World} {G G':Value -> World -> Prop} (h:BJ P (execOp ρ' o) w G) (h':BJ P (execOp ρ' o) w G'):BJ P (execOp ρ' o) w (fun v W=>G v W/\ G' v W):=by
 rcases h with ⟨v,w1,h1,_⟩ | ⟨w1,h1,h2⟩ | ⟨f,ag,w1,h1,_⟩
 ·cases Ot ho h1
 ·rcases h' with ⟨v,w2,g1,_⟩ | ⟨w2,g1,g2⟩ | ⟨f,ag,w2,g1,_⟩
  ·cases Ot ho g1
  ·rw [h1] at g1;cases g1;exact .inr (.inl ⟨w1,h1,h2,g2⟩)
  ·cases Ot ho g1
 ·cases Ot ho h1
theorem mJ {t:TypeId} {x d:DV} {k:Nat} {h':DH} {vc:Prop} (hx:(∃ j,x= .ref k j)∨∃ m i j,x= .mp k m i j) (h:Lc P S t x d=some (h',vc)):k<S.h.length/\ ∃ h2,Lc P ⟨S.fr,G5 (fun i=>i==k) S.h⟩ t x d=some (h2,vc):=by
 have key: ∀ {o:DO},S.h[k]? =some (some o) -> k<S.h.length/\ (G5 (fun i=>i==k) S.h)[k]? =some (some o):=fun {o} ho=>by
  have hk:=(zp.1 ho).1;exact ⟨hk,by rw [ir (by simp) hk];exact ho⟩
 unfold Lc at h ⊢;rcases hx with ⟨j,rfl⟩ | ⟨m,i,j,rfl⟩
 ·simp only at h ⊢;split at h
  ·rename_i l hl;obtain ⟨h1,h2⟩:=key hl;refine ⟨h1,?_⟩;simp only [h2]
   repeat' (split at h)
   all_goals first | (cases h;done) | skip
   cases h;rename_i q1 q2 q3;simp only [q1,q2,q3,zAn];exact ⟨_,rfl⟩
  ·cases h
 ·simp only at h ⊢;split at h
  ·rename_i Am;split at h
   ·rename_i l hl;obtain ⟨h1,h2⟩:=key hl;refine ⟨h1,?_⟩;simp only [h2,Am,zAn]
    repeat' (split at h)
    all_goals first | (cases h;done) | skip
    cases h;rename_i q1;simp only [q1,zAn];exact ⟨_,rfl⟩
   ·rename_i l hl;obtain ⟨h1,h2⟩:=key hl;refine ⟨h1,?_⟩;simp only [h2,Am,zAn]
    repeat' (split at h)
    all_goals first | (cases h;done) | skip
    cases h;rename_i q1;simp only [q1,zAn];exact ⟨_,rfl⟩
   ·rename_i m' n f hl;obtain ⟨h1,h2⟩:=key hl;refine ⟨h1,?_⟩;simp only [h2,Am,zAn]
    repeat' (split at h)
    all_goals first | (cases h;done) | skip
    cases h;rename_i q1;simp only [q1,zAn];exact ⟨_,rfl⟩
   ·cases h
  ·cases h
theorem Wg {o:Oper} {k:Nat} (h:KL S o=some k): ∃ t x y,o.op= .store t x y/\ ((∃ j,AW S.fr x= .ref k j)∨∃ m i j,AW S.fr x= .mp k m i j):=by
 unfold KL at h;split at h
 ·rename_i t x y ho;refine ⟨t,x,y,ho,?_⟩;split at h
  ·rename_i j e;cases h;exact .inl ⟨j,e⟩
  ·rename_i m i j e;cases h;exact .inr ⟨m,i,j,e⟩
  ·cases h
 ·cases h
theorem zV {calls:List (DV×DH×Bool)} {o:Oper} {t:TypeId} {x y:Operand} (ho:o.op= .store t x y) {d:DV} {h':DH} {vs:List Prop} {ext:Bool} {SU:List (DV×DH×Bool)} (h:PG P Γ S calls o.op=some (d,h',vs,ext,SU)): ∃ vc,Lc P S t (AW S.fr x) (AW S.fr y)=some (h',vc)/\ vs= [vc]:=by
 rw [ho] at h;simp only [PG] at h;split at h
 ·rename_i h1 vc hs;cases h;exact ⟨vc,hs,rfl⟩
 ·cases h
theorem zW (R:AY P Γ N S ρ a w) {calls:List (DV×DH×Bool)} {o:Oper} {d:DV} {h':DH} {vs:List Prop} {ext:Bool} {SU:List (DV×DH×Bool)} (h:PG P Γ S calls o.op=some (d,h',vs,ext,SU)) (hv:Bb vs):
 BJ P (execOp a.eval o) w (fun v w'=>DM P Γ N S.h ρ w ext d h' v w'/\ ∀ k,KL S o=some k -> AN (fun b=>∃ q,ρ[k]? =some q/\ q.foot b) w w'):=by
 cases D8:KL S o with
 | none=>
  have D:=aa R h hv;rcases D with ⟨v,w1,h1,h2⟩ | ⟨w1,h1,h2⟩ | ⟨f,ag,w1,h1,h2⟩
  ·exact .inl ⟨v,w1,h1,h2,fun k hk=>by cases hk⟩
  ·exact .inr (.inl ⟨w1,h1,h2,fun k hk=>by cases hk⟩)
  ·exact .inr (.inr ⟨f,ag,w1,h1,h2.mono fun e CI ⟨v,e1,e2⟩=>⟨v,e1,e2,fun k hk=>by cases hk⟩⟩)
 | some k=>
  obtain ⟨t,x,y,ho,hx⟩:=Wg D8;have D:=aa R h hv;obtain ⟨vc,hs,rfl⟩:=zV ho h;obtain ⟨_,h2,Ks⟩:=mJ hx hs;have D2:=cL (AY.sel R (fun i=>i==k)) (tx:=x) (x:=y) Ks hv.1 o ho;have D3:=BJ.store ho D D2;rcases D3 with ⟨v,w1,h1,g1,g2⟩ | ⟨w1,h1,g1,g2⟩ | ⟨f,ag,w1,h1,_⟩
  ·cases Ot ho h1
  ·refine .inr (.inl ⟨w1,h1,g1,fun k' CZ=>?_⟩);cases CZ;obtain ⟨ρ2,_,_,st,_⟩:=g2.ex;refine st.upd.mono fun b _ hb=>?_
   obtain ⟨i,o',q,q1,q2,q3⟩:=hb;have:=(Of q1).2;have e:i=k:=by simpa using this
   subst e;exact ⟨q,q2,q3⟩
  ·cases Ot ho h1
theorem yz {F:Fence} (hF:Du F P) (R:AY P Γ N S ρ a w) {ops:Array Oper} {Ao:Bs} {o:Oper} (hd: ∀ c,o.op≠.defer c) {S':St} {vs:List Prop} {ext:Bool} {CP:Bs} (h:M8 P Γ ops S Ao o=some (S',vs,ext,CP)) (hv:Bb vs)
 {K:Act -> World -> Prop} {Q:Exit -> Act -> World -> Prop} (hK: ∀ ρ' a' w',AY P Γ N S' ρ' a' w' -> Dr S.h ρ w S'.h ρ' w' -> a'.defers=a.defers -> (ext=true -> Au w w') -> (∀ k,KL S o=some k -> AN (fun b=>∃ q,ρ[k]? =some q/\ q.foot b) w w') -> K a' w'):
 if Region.wanted o (yielded ops a.tmps) then o.wpIn F 0 P a w K Q else (∀ f,o.about P w a.eval=some f -> F.fn f)/\ K (a.put o.dst undef) w:=by
 have DC: ∀ v,(a.put o.dst v).defers=a.defers:=fun v=>by cases ho:o.dst <;> simp [Act.put]
 unfold M8 at h;split at h
 ·cases h
 ·rename_i hw;cases h;rw [zr (by rw [KD R hw];exact zBo)];exact ⟨fun f _=>hF.fn f,hK ρ _ _ (Hn R _ S5) (Dr.refl _ _ _) (DC _) (fun _=>Au.refl w) fun _ _=>AN.refl _ _⟩
 ·rename_i hw;rw [zi (KD R hw)];split at h
  ·rename_i S1 CV wl hM;cases h;refine LE hF hd (cx R hM hv) fun v w' ⟨⟨ρ',g1,g2⟩,D8⟩=>hK ρ' _ _ g1 g2 (DC v) (fun e=>by cases e) fun k' CZ=>?_
   obtain ⟨t0,x0,y0,OK,_⟩:=Wg CZ;rcases D8 with D8 | ⟨k,i,p,t,x,y,q1,q2,q3,q4⟩
   ·exact absurd OK (D8 t0 x0 y0)
   have e:k'=k:=by
    unfold KL at CZ;rw [q1] at CZ;simp only [q2] at CZ;exact (zo CZ).symm
   subst e;exact q4.mono fun b _ hb=>⟨p,q3,hb⟩
  split at h
  ·rename_i S1 CV hM;cases h;refine LE hF hd (cK R hM hv) fun v w' ⟨⟨ρ',g1,g2⟩,D8⟩=>hK ρ' _ _ g1 g2 (DC v) (fun e=>by cases e) fun k' CZ=>?_
   obtain ⟨t0,x0,y0,OK,_⟩:=Wg CZ;rcases D8 with D8 | ⟨k,i,p,t,x,y,q1,q2,q3,q4⟩
   ·exact absurd OK (D8 t0 x0 y0)
   have e:k'=k:=by
    unfold KL at CZ;rw [q1] at CZ;simp only [q2] at CZ;exact (zo CZ).symm
   subst e;exact q4.mono fun b _ hb=>⟨p,q3,hb⟩
  split at h
  ·cases h
  ·rename_i d h1 CV ext1 calls Zb;split at h;rename_i d' Bc Di Ri;split at h
   ·cases h
   ·rename_i S2 WN My GM;cases h;obtain ⟨Be,Yh⟩:=C6.1 hv;obtain ⟨CE,Md⟩:=C6.1 Yh;refine LE hF hd (zW R Zb Be) fun v w' G=>?_
    obtain ⟨ρ',g1,g2⟩:=Oc R o.dst G.1 (d':=d') fun M ρ' hr=>Z9 Ri CE hr
    obtain ⟨g3,g4⟩:=Zp _ GM Md P Γ N ρ' _ _ g1;exact hK ρ' _ _ g3 (g2.trans ⟨g4,fun _ _ h=>h⟩) (DC v) G.1.ext G.2
theorem lh {F:Fence} (hF:Du F P) {ops:Array Oper} (Ay:D5 ops=true) (hs:Region.noSelect ops=true) {early:List Nat} {xs:List (Nat×Nat)} {nw:List Nat} {L0:Nat} {S':St} {Q:Exit -> Act -> World -> Prop}:
 ∀ (t:ST) (m:Nat) (L:Array Bool) {S:St} {ρ:List AI} {a:Act} {w:World} {vs:List Prop} {Ao CP:Bs},F9 ops L -> AY P Γ N S ρ a w -> KG P Γ ops early xs nw L0 S' t S Ao=some (vs,CP) -> Bb vs ->
 (∀ ρ' a' w',AY P Γ N S' ρ' a' w' -> A9 S.h ρ w S'.h ρ' w' -> (∀ k p,k<L0 -> ρ[k]? =some p -> ρ'[k]? =some p) -> a'.defers=a.defers -> Q .normal a' w') ->
 (Dk ops early false m t L=true -> Gz F 0 P ops Q (RZ ops (fun j=>early.contains j) (fun j=>Zs (IZ xs nw j) ρ w)) m L a w)/\
 (Dk ops early true m t L=true -> ∀ i∈Sn t,i∈Region.ready .any ops L -> ∃ m',m=m'+1/\ wpOpIn F 0 P ops (NP Q) i (fun a' w'=>RZ ops (fun j=>early.contains j) (fun j=>Zs (IZ xs nw j) ρ w) i w w'/\ Gz F 0 P ops Q (RZ ops (fun j=>early.contains j) (fun j=>Zs (IZ xs nw j) ρ w)) m' (L.setIfInBounds i true) a' w') a w):=by
 intro t
 induction t with
 | no=>
  intro m L S ρ a w vs Ao XZ BL R hV hv hQ;exact ⟨fun h=>by cases m <;> simp [Dk] at h,fun _ i hi=>by cases hi⟩
 | fin π live=>
  intro m L S ρ a w vs Ao XZ BL R hV hv hQ;refine ⟨fun h=>?_,fun h=>by cases m <;> simp [Dk] at h⟩;cases m with
  | succ m=>simp [Dk] at h
  | zero=>
   simp only [Dk,zq,zw] at h;refine ⟨h,?_⟩;simp only [KG] at hV;split at hV
   ·rename_i hσ;cases hV;simp only [cY,zm,zAP,zq,zw] at hσ;obtain ⟨ρ0,R0,mK,k0⟩:=BI.forget (L:=L0) live S.fr S.h P Γ N ρ a w R;obtain ⟨ρ',R',Ec,k'⟩:=BI.compact (L:=L0) (TJ π L0) ⟨forget live S.fr,S.h⟩ hσ.1.1 (fun k hk=>hσ.1.2 k hk) (fun k hk=>hσ.2 k hk) P Γ N ρ0 a w R0;have st:=mK.trans Ec;have e:FH (TJ π L0) ⟨forget live S.fr,S.h⟩=S':=hv.1;rw [e] at R' st Ec;exact hQ ρ' a w R' st (fun k p hk hp=>k' k p hk (k0 k p hk hp)) rfl
   ·cases hV
 | rd i t ih=>
  intro m L S ρ a w vs Ao XZ BL R hV hv hQ;refine ⟨fun h=>?_,fun h=>by cases m <;> simp [Dk] at h⟩;cases m with
  | zero=>simp [Dk] at h
  | succ m=>
   simp only [Dk,zm] at h;simp only [KG] at hV;split at hV
   ·cases hV
   ·rename_i o ho;split at hV
    ·rename_i Mt;split at hV
     ·cases hV
     ·rename_i S1 CV SR hp;split at hV
      ·cases hV
      ·rename_i Eo HF h2;cases hV;obtain ⟨Be,CE⟩:=C6.1 hv;have RK:=AY.sel R (fun k=>!(I6 ops xs nw i).contains k);obtain ⟨e1,D8⟩:=Tx RK hp Be;have DC: ∀ v,(a.put o.dst v).defers=a.defers:=fun v=>by cases ho:o.dst <;> simp [Act.put]
       have ON:(Region.ready .any ops L).contains i=true:=by
        have:=h.1;simp only [Tm,zm] at this;exact this.1.1.1
       have back: ∀ v,B0 (MS (fun b=>N b∨∃ k o q,(!(I6 ops xs nw i).contains k)=false/\ S.h[k]? =some (some o)/\ ρ[k]? =some q/\ q.foot b) S1.h ρ) w ρ S1.fr (a.put o.dst v).tmps -> AY P Γ N ⟨S1.fr,S.h⟩ ρ (a.put o.dst v) w:=fun v hr=>by
        rw [e1] at hr;exact AY.unsel (p:=fun k=>!(I6 ops xs nw i).contains k) R.hr hr
       have hZ: ∀ j,Fi ops ops.size j i=false -> ∀ b,Zs (IZ xs nw j) ρ w b -> Zs (I6 ops xs nw i) ρ w b:=by
        rintro j hj b (⟨k,q,k1,k2,k3⟩ | hb)
        ·refine .inl ⟨k,q,?_,k2,k3⟩;unfold IZ at k1;unfold I6;rcases zAI.1 k1 with k1 | k1
         ·obtain ⟨p,p1,p2⟩:=zAt.1 k1;obtain ⟨p3,p4⟩:=zBV.1 p1;have:p.1=j:=by simpa using p4
          exact zAI.2 (.inl (zAt.2 ⟨p,zBV.2 ⟨p3,by rw [this,hj];rfl⟩,p2⟩))
         ·exact zAI.2 (.inr k1)
        ·exact .inr hb
       rcases D8 with ⟨hw,v,g1,g2⟩ | ⟨hw,g2⟩
       ·refine de (Zi:=Zs (I6 ops xs nw i) ρ w) hF.fn Ay hs ho BL h.1 hZ (.inl ⟨hw,fun W hu=>g1 W (sB R.hr Mt hu)⟩) ?_;exact (ih m _ (aA BL ON) (back v g2.fr) h2 CE fun ρ' a' w' q1 q2 q3 q4=>hQ ρ' a' w' q1 q2 q3 (q4.trans (DC v))).1 h.2
       ·refine de (Zi:=Zs (I6 ops xs nw i) ρ w) hF.fn Ay hs (v:=undef) ho BL h.1 hZ (.inr ⟨hw,rfl⟩) ?_;exact (ih m _ (aA BL ON) (back undef g2.fr) h2 CE fun ρ' a' w' q1 q2 q3 q4=>hQ ρ' a' w' q1 q2 q3 (q4.trans (DC undef))).1 h.2
    ·cases hV
 | ef i t Gq sk sj=>
  intro m L S ρ a w vs Ao XZ BL R hV hv hQ;simp only [KG] at hV;split at hV
  ·cases hV
  ·rename_i o ho;split at hV
   ·cases hV
   ·rename_i S1 CV ext L5 h1;split at hV
    ·rename_i VD;simp only [jT,zm,zAE] at VD;obtain ⟨⟨⟨Mt,wL⟩,vZ⟩,vr⟩:=VD;split at hV
     ·cases hV
     rename_i Eo HF h2;split at hV
     ·cases hV
     ·rename_i PS Ns h3;cases hV;obtain ⟨Be,Cn⟩:=C6.1 hv;obtain ⟨CE,Md⟩:=C6.1 Cn;have A:=sj m L BL R h3 Md hQ
      have sub: ∀ {j k:Nat},k∈IZ xs nw j -> k∈PO xs nw:=fun {j k} hk=>by
       unfold IZ at hk;unfold PO;rcases zAI.1 hk with hk | hk
       ·obtain ⟨p,p1,p2⟩:=zAt.1 hk;exact zAI.2 (.inl (zAt.2 ⟨p,(zBV.1 p1).1,p2⟩))
       ·exact zAI.2 (.inr hk)
      have one: ∀ b,Dk ops early b m (.ef i t Gq) L=true -> (Region.ready .any ops L).contains i=true -> ∃ m',m=m'+1/\ Dk ops early true m Gq L=true/\ wpOpIn F 0 P ops (NP Q) i (fun a' w'=>RZ ops (fun j=>early.contains j) (fun j=>Zs (IZ xs nw j) ρ w) i w w'/\ Gz F 0 P ops Q (RZ ops (fun j=>early.contains j) (fun j=>Zs (IZ xs nw j) ρ w)) m' (L.setIfInBounds i true) a' w') a w:=by
       intro b hb hr;cases m with
       | zero=>cases b <;> simp [Dk] at hb
       | succ m=>
        have Cy:(!Qc ops i)=true/\ Dk ops early false m t (L.setIfInBounds i true)=true/\ Dk ops early true (m+1) Gq L=true:=by
         cases b <;> simp only [Dk,zm] at hb <;> exact ⟨hb.1.1.2,hb.1.2,hb.2⟩
        obtain ⟨b1,b2,b3⟩:=Cy;refine ⟨m,rfl,b3,?_⟩;unfold wpOpIn;simp only [ho];refine yz hF R (Hy Ay ho) h1 Be fun ρ' a' w' R' st EC Iy tQ=>?_
        refine ⟨⟨fun hp=>(by rw [hp] at b1;cases b1),fun he=>?_⟩,?_⟩
        ·rcases vr with (h | h) | h
         ·have he:early.contains i=true:=he;rw [he] at h;cases h
         ·exact AN.ofExt (Iy h)
         ·split at h
          ·rename_i k hk;refine (tQ k hk).mono fun b _ hb=>?_
           obtain ⟨q,q1,q2⟩:=hb;exact .inl ⟨k,q,by simpa using h,q1,q2⟩
          ·cases h
        ·have T:=(sk m _ (aA BL hr) R' h2 CE fun ρ2 a2 w2 q1 q2 q3 q4=>hQ ρ2 a2 w2 q1 (st.st.trans q2) (fun k p hk hp=>q3 k p hk (st.pl k p hp)) (q4.trans EC)).1 b2;refine ar (fun j w1 w2 hR=>⟨hR.1,fun he=>(hR.2 he).mono fun b iS hb=>?_⟩) _ _ _ _ T;rcases hb with ⟨k,q,k1,k2,k3⟩ | hb
         ·by_cases hk:k<ρ.length
          ·have e:=st.pl k _ (zf hk);rw [e] at k2;exact .inl ⟨k,q,k1,by rw [zf hk];exact k2,k3⟩
          ·refine .inr ?_;rw [R.hr.len] at hk;rcases vZ with hx | hx
           ·have:=zq.1 hx k (sub k1);simp only [zAP] at this;omega
           ·have CZ:k<S1.h.length:=by rw [←R'.hr.len];exact (zp.1 k2).1
            have ha:=zq.1 wL k (sub k1);simp only [zAE,zAP] at ha;rcases ha with ha | ha
            ·omega
            ·cases hg:S1.h.getD k none with
             | none=>rw [hg] at ha;cases ha
             | some ob=>
              rcases st.st.grow b ⟨k,ob,q,getD_some hg,k2,k3⟩ with ⟨i2,o2,p2,g1,g2,g3⟩ | h
              ·exfalso
               have vg:=(zp.1 g1).1;have Ut:=zq.1 hx i2 (zw.2 vg);have e2:S.h.getD i2 none=some o2:=by rw [u8,g1];rfl
               rw [e2] at Ut;cases iI:S1.h.getD i2 none with
               | none=>rw [iI] at Ut;cases Ut
               | some qW=>exact R'.hr.dis i2 k qW ob p2 q b (by omega) (getD_some iI) (getD_some hg) (st.pl i2 p2 g2) k2 g3 k3
              ·exact h
         ·exact .inr (zt st.st.upd.size hb)
      refine ⟨fun h=>?_,fun h j hj hr=>?_⟩
      ·have ON:Region.ready .any ops L=i::Sn Gq:=by
        cases m <;> simp only [Dk,zm,zAE,zAQ,Sn,zAa,false_or] at h;exact h.1.1.1
       obtain ⟨m',e,ha,hw⟩:=one false h (by rw [ON];simp);subst e;refine ⟨by rw [ON];simp,fun j hj=>?_⟩;have GL:=hj;rw [ON] at hj;rcases z8.1 hj with rfl | hj
       ·exact hw
       ·obtain ⟨m2,e2,RJ⟩:=A.2 ha j hj GL;cases e2;exact RJ
      ·rcases z8.1 hj with rfl | hj
       ·obtain ⟨m',e,ha,hw⟩:=one true h (by simpa using hr);exact ⟨m',e,hw⟩
       ·have ha:Dk ops early true m Gq L=true:=by
         cases m <;> simp only [Dk,zm] at h
         ·cases h
         ·exact h.2
        exact A.2 ha j hj hr
    ·cases hV
theorem Tr.tree {F:Fence} {B:Option Nat} {L:Nat} {Y:BU P Γ L} {Q:QY P Γ L} (hF:Du F P) {id:Nat} {ops:Array Oper} {early:List Nat} {t:ST} {Ao CP:Bs} {S':St} {vs:List Prop} (hm:P.follows .mixedOrders=true) (hB:B6 ops early t)
 (h:WW P Γ ops early t S Ao=some (S',vs,CP)) (hv:Bb vs) (hk:Q .normal S' Y):Tr P Γ F B L Y (.region id ops true) S Q:=fun N ρ a w R y m b=>by
 simp only [B6,zm] at hB;obtain ⟨⟨h1,h2⟩,h3⟩:=hB;unfold WW at h;split at h
 ·cases h
 split at h
 ·cases h
 ·rename_i hV;cases h;have hE:Au w w.drew:=Au.toDrew w;refine kw hm ((lh hF h3 h2 t ops.size _ yO (R.ext hE) hV hv fun ρ' a' w' R' st ZF EC=>?_).1 h1);have Ec:A9 S.h ρ w S'.h ρ' w':=(A9.ext hE).trans st;exact Tr.done R y m b hk R' Ec (fun k p _ hp=>ZF k p (by rw [←R.hr.len];exact (zp.1 hp).1) hp) EC
end
end Go.Proofs.YtgkhhfnhacibcaaGreatDoor
namespace Go.Proofs.YtgkhhfnhacibcaaGreatDoor
abbrev zCW:=@Go.IntKind.wrap_i64
end Go.Proofs.YtgkhhfnhacibcaaGreatDoor
namespace Go.Proofs.YtgkhhfnhacibcaaGreatDoor
open Go.RowKit
inductive KI where
 | code (c:Code)
 | blk (id:Nat)
 | scp
 | lend (J:St -> Prop)
 | loopN (m:Nat) (b:Code)
def I5 (P:Program) (Γ:Ax) (F:Fence) (B:Option Nat) (L:Nat) (b:Code) (Q:QY P Γ L):Nat -> St -> BU P Γ L -> Prop
 | 0,_,_=>False
 | m+1,S,Y=>Tr P Γ F B L Y b S (Pd (I5 P Γ F B L b Q m) Q)
theorem I5.loop {P:Program} {Γ:Ax} {F:Fence} {B:Option Nat} {L:Nat} {Y:BU P Γ L} {b:Code} {Q:QY P Γ L} {m:Nat} {S:St} (h:I5 P Γ F B L b Q m S Y):Tr P Γ F B L Y (.loop b) S Q:=by
 refine Tr.loop (fun m S Y=>I5 P Γ F B L b Q m S Y) m h fun m S Y hm=>?_
 cases m with
 | zero=>exact hm.elim
 | succ m=>
  refine Tr.mono hm fun e S' Y' hq=>?_
  cases e with
  | normal=>exact ⟨m,Nat.lt_succ_self m,hq⟩
  | _=>exact hq
def DX (P:Program) (Γ:Ax) (F:Fence) (B:Option Nat) (L:Nat) (Q:QY P Γ L):List KI -> QY P Γ L
 | [],e,S,Y=>Q e S Y
 | .code c::k,e,S,Y=>match e with
  | .normal=>Tr P Γ F B L Y c S (DX P Γ F B L Q k)
  | e=>DX P Γ F B L Q k e S Y
 | .blk id::k,e,S,Y=>match e with
  | .exit i=>if i=id then DX P Γ F B L Q k .normal S Y else DX P Γ F B L Q k (.exit i) S Y
  | e=>DX P Γ F B L Q k e S Y
 | .scp::k,e,S,Y=>match e with
  | .goto _=>False
  | e=>DX P Γ F B L Q k e S Y
 | .lend J::k,e,S,Y=>match e with
  | .normal=>J S
  | e=>DX P Γ F B L Q k e S Y
 | .loopN m b::k,e,S,Y=>match e with
  | .normal=>I5 P Γ F B L b (DX P Γ F B L Q k) m S Y
  | e=>DX P Γ F B L Q k e S Y
def At (P:Program) (Γ:Ax) (F:Fence) (B:Option Nat) (L:Nat) (Y:BU P Γ L) (Q:QY P Γ L) (k:List KI) (S:St):Prop:=DX P Γ F B L Q k .normal S Y
def stay {P:Program} {Γ:Ax} {L:Nat} (N:BU P Γ L) (Q:Exit -> St -> Prop):QY P Γ L:=fun e S Y=>Y=N/\ Q e S
abbrev BN (P:Program) (Γ:Ax) (F:Fence) (B:Option Nat) (L:Nat) (N:BU P Γ L) (Q:Exit -> St -> Prop) (k:List KI) (S:St):Prop:=At P Γ F B L N (stay N Q) k S
def Hv (id:Nat):List KI -> Option (List KI)
 | []=>none
 | .blk i::k=>if id=i then some k else Hv id k
 | _::k=>Hv id k
inductive ab where
 | no
 | ord (st:List (List Nat×Nat)) (la ta:List Nat)
 | stop
 | tre (early:List Nat) (t:ST)
abbrev BV:=Nat -> ab
def ab.isStop:ab -> Bool
 | .stop=>true
 | _=>false
def BR (i:Nat) (s:BV):BV:=fun j=>if j=i then .stop else s j
def An (ops:Array Oper) (EL:List (List Nat×Nat)) (last tail:List Nat):Prop:=(Wr ops EL last tail&&D5 ops&&tail.all fun t=>decide (t<ops.size))=true
inductive KO where
 | at (k:List KI)
 | ret
def Bp (P:Program) (Γ:Ax) (Ar:BV):Nat -> List KI -> St -> Bs -> Option (KO×St×List Prop×Bs)
 | 0,_,_,_=>none
 | n+1,k,S,o=>match k with
  | []=>some (.at [],S,[],o)
  | .blk _::k=>Bp P Γ Ar n k S o
  | .scp::k=>Bp P Γ Ar n k S o
  | .lend J::k=>some (.at (.lend J::k),S,[],o)
  | .loopN m b::k=>some (.at (.loopN m b::k),S,[],o)
  | .code c::k=>match c with
   | .skip=>Bp P Γ Ar n k S o
   | .seq a b=>Bp P Γ Ar n (.code a:: .code b::k) S o
   | .block id b=>Bp P Γ Ar n (.code b:: .blk id::k) S o
   | .scope b=>Bp P Γ Ar n (.code b:: .scp::k) S o
   | .label _=>Bp P Γ Ar n k S o
   | .exit id=>match Hv id k with
    | some k'=>Bp P Γ Ar n k' S o
    | none=>some (.at (.code (.exit id)::k),S,[],o)
   | .ret=>some (.ret,S,[],o)
   | .cond x a b=>match AW S.fr x with
    | .bool true=>Bp P Γ Ar n (.code a::k) S o
    | .bool false=>Bp P Γ Ar n (.code b::k) S o
    | _=>none
   | .region id ops dr=>if (Ar id).isStop then some (.at (.code (.region id ops dr)::k),S,[],o) else match dr with
    | false=>if D5 ops then match Eg P Γ ops ops.toList S o with
     | none=>none
     | some (S',vs,o')=>match Bp P Γ Ar n k S' o' with
      | none=>none
      | some (r,Cd,Bc,Qn)=>some (r,Cd,vs++Bc,Qn)
     else none
    | true=>match Ar id with
     | .no=>none
     | .stop=>none
     | .tre early t=>match WW P Γ ops early t S o with
      | none=>none
      | some (S',vs,o')=>match Bp P Γ Ar n k S' o' with
       | none=>none
       | some (r,Cd,Bc,Qn)=>some (r,Cd,B6 ops early t::(vs++Bc),Qn)
     | .ord st la ta=>match hseq P Γ ops st la ta S o with
      | none=>none
      | some (S',vs,o')=>match Bp P Γ Ar n k S' o' with
       | none=>none
       | some (r,Cd,Bc,Qn)=>some (r,Cd,An ops st la ta::(vs++Bc),Qn)
   | c=>some (.at (.code c::k),S,[],o)
section
variable {P:Program} {Γ:Ax} {F:Fence} {B:Option Nat} {L:Nat} {Y:BU P Γ L} {Q:QY P Γ L}
theorem wf (hF:Du F P) {S:St} {id:Nat} {ops:Array Oper} {Ao CP:Bs} {S':St} {vs:List Prop} {Q:QY P Γ L} (Ay:D5 ops=true) (h:Eg P Γ ops ops.toList S Ao=some (S',vs,CP)) (hv:Bb vs) (hk:Q .normal S' Y):Tr P Γ F B L Y (.region id ops false) S Q:=fun N ρ a w R y m b=>
 wpIn_region_list (K3 hF Ay _ (fun o ho=>by simpa using ho) R h hv fun ρ' a' w' R' st EC=>Tr.done R y m b hk R' st.st (fun k p _ hp=>st.pl k p hp) EC)
theorem tX (hF:Du F P) {S:St} {id:Nat} {ops:Array Oper} {EL:List (List Nat×Nat)} {last tail:List Nat} {Ao CP:Bs} {S':St} {vs:List Prop} {Q:QY P Γ L} (hm:P.follows .mixedOrders=true) (hB:An ops EL last tail)
 (h:hseq P Γ ops EL last tail S Ao=some (S',vs,CP)) (hv:Bb vs) (hk:Q .normal S' Y):Tr P Γ F B L Y (.region id ops true) S Q:=fun N ρ a w R y m b=>by
 simp only [An,zm] at hB;obtain ⟨⟨h1,h2⟩,h3⟩:=hB;have hE:Au w w.drew:=Au.toDrew w;refine kr hF.fn EL last tail hm (by simp only [zm];exact ⟨h1,h2⟩) (gT hF h2 EL last tail h3 (R.ext hE) h hv fun ρ' a' w' R' st EC=>?_);have Ec:A9 S.h ρ w S'.h ρ' w':=(A9.ext hE).trans st.st;exact Tr.done R y m b hk R' Ec (fun k p _ hp=>st.pl k p hp) EC
theorem Lw {id:Nat} {S:St}: ∀ {k k':List KI},Hv id k=some k' -> DX P Γ F B L Q k' .normal S Y -> DX P Γ F B L Q k (.exit id) S Y
 | [],_,h,_=>by cases h
 | .blk i::k,k',h,hq=>by
  unfold Hv at h;split at h
  ·rename_i e;cases h;subst e
   show (if id=id then _ else _)
   rw [zi rfl];exact hq
  ·rename_i e
   show (if id=i then _ else _)
   rw [zr e];exact Lw h hq
 | .code c::k,k',h,hq=>Lw (k:=k) h hq
 | .lend J::k,k',h,hq=>Lw (k:=k) h hq
 | .scp::k,k',h,hq=>Lw (k:=k) h hq
 | .loopN m b::k,k',h,hq=>Lw (k:=k) h hq
theorem Nf {S:St} (h:Q .ret S Y): ∀ (k:List KI),DX P Γ F B L Q k .ret S Y
 | []=>h
 | .blk _::k=>Nf h k
 | .code _::k=>Nf h k
 | .lend _::k=>Nf h k
 | .scp::k=>Nf h k
 | .loopN _ _::k=>Nf h k
def zb (P:Program) (Γ:Ax) (F:Fence) (B:Option Nat) (L:Nat) (Y:BU P Γ L) (Q:QY P Γ L):KO -> St -> Prop
 | .at k,S=>At P Γ F B L Y Q k S
 | .ret,S=>Q .ret S Y
theorem E0 (hF:Du F P) (hm:P.follows .mixedOrders=true) {Ar:BV}: ∀ (n:Nat) (k:List KI) (S:St) (o:Bs) (r:KO) (S':St) (vs:List Prop) (o':Bs),Bp P Γ Ar n k S o=some (r,S',vs,o') -> Bb vs -> zb P Γ F B L Y Q r S' -> At P Γ F B L Y Q k S
 | 0,_,_,_,_,_,_,_,h,_,_=>by cases h
 | n+1,k,S,o,r,S',vs,o',h,hv,hk=>by
  unfold Bp at h;cases k with
  | nil=>cases h;exact hk
  | cons i k=>
   cases i with
   | blk id=>exact E0 hF hm n k S o r S' vs o' h hv hk
   | scp=>exact E0 hF hm n k S o r S' vs o' h hv hk
   | lend J=>cases h;exact hk
   | loopN m b=>cases h;exact hk
   | code c=>
    show Tr P Γ F B L Y c S (DX P Γ F B L Q k)
    cases c with
    | skip=>exact Tr.skip (E0 hF hm n k S o r S' vs o' h hv hk)
    | seq a b=>
     refine Tr.seq (Tr.mono (E0 hF hm n (.code a:: .code b::k) S o r S' vs o' h hv hk) fun e S2 Y2 hq=>?_);cases e <;> exact hq
    | block id b=>
     refine Tr.block (Tr.mono (E0 hF hm n (.code b:: .blk id::k) S o r S' vs o' h hv hk) fun e S2 Y2 hq=>?_);cases e <;> exact hq
    | exit id=>
     simp only at h;split at h
     ·rename_i k' hp;exact Tr.exit (Lw hp (E0 hF hm n k' S o r S' vs o' h hv hk))
     ·cases h;exact hk
    | ret=>cases h;exact Tr.ret (Nf hk k)
    | cond x a b=>
     simp only at h;split at h
     ·rename_i hc;exact Tr.cond hc (fun _=>E0 hF hm n (.code a::k) S o r S' vs o' h hv hk) (fun e=>by cases e)
     ·rename_i hc;exact Tr.cond hc (fun e=>by cases e) (fun _=>E0 hF hm n (.code b::k) S o r S' vs o' h hv hk)
     ·cases h
    | region id ops dr=>
     simp only at h;split at h
     ·cases h;exact hk
     ·cases dr with
      | false=>
       simp only at h;split at h
       ·rename_i Ay;split at h
        ·cases h
        ·rename_i S1 CV o1 h1;split at h
         ·cases h
         ·rename_i r2 S2 Eo o2 h2;cases h;obtain ⟨Be,CE⟩:=C6.1 hv;exact wf hF Ay h1 Be (E0 hF hm n k S1 o1 _ _ _ _ h2 CE hk)
       ·cases h
      | true=>
       simp only at h;split at h
       ·cases h
       ·cases h
       ·rename_i early t hs;split at h
        ·cases h
        ·rename_i S1 CV o1 h1;split at h
         ·cases h
         ·rename_i r2 S2 Eo o2 h2;cases h;obtain ⟨HN,Cn⟩:=hv;obtain ⟨Be,CE⟩:=C6.1 Cn;exact Tr.tree hF hm HN h1 Be (E0 hF hm n k S1 o1 _ _ _ _ h2 CE hk)
       ·rename_i st la ta hs;split at h
        ·cases h
        ·rename_i S1 CV o1 h1;split at h
         ·cases h
         ·rename_i r2 S2 Eo o2 h2;cases h;obtain ⟨HN,Cn⟩:=hv;obtain ⟨Be,CE⟩:=C6.1 Cn;exact tX hF hm HN h1 Be (E0 hF hm n k S1 o1 _ _ _ _ h2 CE hk)
    | loop b=>cases h;exact hk
    | rangeFunc f ps kI bd=>cases h;exact hk
    | scope b=>
     refine Tr.scope (Tr.mono (E0 hF hm n (.code b:: .scp::k) S o r S' vs o' h hv hk) fun e S2 Y2 hq=>?_);cases e <;> exact hq
    | label l=>exact Tr.label (E0 hF hm n k S o r S' vs o' h hv hk)
    | goto l=>cases h;exact hk
    | refuse w=>cases h;exact hk
theorem At.weaken {k:List KI} {S S':St} (hS:BI L S S') (h:At P Γ F B L Y Q k S') (hk: ∃ c k',k= .code c::k'):At P Γ F B L Y Q k S:=by
 obtain ⟨c,k',rfl⟩:=hk;exact Tr.weaken hS h
def MR:List KI -> Bool
 | .code (.loop _)::_=>true
 | _=>false
def Dx (k:List KI):List KI:=match k with
 | _::rest=>rest
 | []=>[]
def K8 (id:Nat):List Nat -> Code -> List KI -> Option (List KI)
 | ms,.seq a b,k=>match K8 id ms a (.code b::k) with
  | some r=>some r
  | none=>K8 id ms b k
 | ms,.cond _ a b,k=>match K8 id ms a k with
  | some r=>some r
  | none=>K8 id ms b k
 | ms,.block i c,k=>if i=id then some (.code c:: .blk i::k) else K8 id ms c (.blk i::k)
 | ms,.scope c,k=>K8 id ms c (.scp::k)
 | m::ms,.loop b,k=>K8 id ms b (.loopN m b::k)
 | _,_,_=>none
def K9 (id:Nat):List Nat -> Code -> List KI -> Option (List KI)
 | ms,.seq a b,k=>match K9 id ms a (.code b::k) with
  | some r=>some r
  | none=>K9 id ms b k
 | ms,.cond _ a b,k=>match K9 id ms a k with
  | some r=>some r
  | none=>K9 id ms b k
 | ms,.block i c,k=>K9 id ms c (.blk i::k)
 | ms,.scope c,k=>K9 id ms c (.scp::k)
 | m::ms,.loop b,k=>K9 id ms b (.loopN m b::k)
 | _,.region i ops dr,k=>if i=id then some (.code (.region i ops dr)::k) else none
 | _,_,_=>none
def Ak (m:Nat) (k:List KI):List KI:=match k with
 | .code (.loop b)::rest=>.loopN m b::rest
 | _=>[]
def bP (m:Nat) (k:List KI):List KI:=match k with
 | .code (.loop b)::rest=>.code b:: .loopN m b::rest
 | _=>[]
def start (f:Func):List KI:=match f.body with
 | some c=>[.code c]
 | none=>[]
def Ig (c:Code) (id:Nat):Array Oper:=match c with
 | .region i ops _=>if i=id then ops else #[]
 | .seq a b=>let x:=Ig a id;if x.size=0 then Ig b id else x
 | .cond _ a b=>let x:=Ig a id;if x.size=0 then Ig b id else x
 | .block _ c=>Ig c id
 | .loop c=>Ig c id
 | .scope c=>Ig c id
 | .rangeFunc _ _ a b=>let x:=Ig a id;if x.size=0 then Ig b id else x
 | _=>#[]
def A8 (f:Func) (id:Nat):Array Oper:=match f.body with
 | some c=>Ig c id
 | none=>#[]
theorem BN.enter {k:List KI} {S:St} (m:Nat) (hk:MR k=true) (h:At P Γ F B L Y Q (Ak m k) S):At P Γ F B L Y Q k S:=by
 unfold MR at hk;split at hk
 ·exact I5.loop h
 ·cases hk
theorem BN.round {k:List KI} {S:St} {n m:Nat} (hm:n+1<=m) (hk:MR k=true) (h: ∀ m,n<=m -> At P Γ F B L Y Q (bP m k) S):At P Γ F B L Y Q (Ak m k) S:=by
 cases m with
 | zero=>omega
 | succ m=>
  have h:=h m (Nat.le_of_succ_le_succ hm);unfold MR at hk;split at hk
  ·refine Tr.mono h fun e S' Y' hq=>?_
   cases e <;> exact hq
  ·cases hk
def AL (n:Nat) (l:List (Nat×DV)):List DV:=(List.range n).map fun i=>match l.find? (fun x=>x.1==i) with
 | some x=>x.2
 | none=>.any
theorem Fe.le {fn:Func} {d:DV} {h':DH} {e:Exit} {S S':St} (hS:BI L S S') (h:Fe P fn L d h' e S'):Fe P fn L d h' e S:=by
 obtain ⟨he,Cd,h1,h2⟩:=h;exact ⟨he,Cd,hS.trans h1,h2⟩
theorem ES.of_trk {f:Nat} {fn:Func} {ds:List DV} {h:DH} {d:DV} {h':DH} {ext:Bool} (hf:P.funcs[f]? =some fn) (hb:fn.body.isSome=true) (Jl:(fn.name== "runtime.NumGoroutine")=false) (hni:Qr h') (Iy:ext=true -> h= [])
 (H: ∀ (B:Nat) (N:BU P Γ h.length),BN P Γ Fence.wide (some B) h.length N (Fe P fn h.length d h') (start fn) ⟨ds++List.replicate (fn.ntmps-ds.length) .any,h⟩):ES P Γ f ds h d h' ext:=by
 cases hc:fn.body with
 | none=>rw [hc] at hb;cases hb
 | some c=>
  refine ES.of_tr hf hc (by simpa using Jl) hni (fun B N=>?_) Iy;have:=H B N;unfold start at this;rw [hc] at this;refine Tr.mono this fun e S Y hq=>?_
  cases e <;> exact hq
def Gf:DV -> Bool
 | .mse .. =>false
 | .mri .. =>false
 | .ref .. =>false
 | .msl .. =>false
 | .mp .. =>false
 | .it _=>false
 | .agg m f=>(List.range m).all fun j=>Gf (f j)
 | .tup m f=>(List.range m).all fun j=>Gf (f j)
 | .fn _ m f=>(List.range m).all fun j=>Gf (f j)
 | _=>true
theorem Nu: ∀ {d:DV},Gf d=true -> Hd d:=by
 intro d
 induction d with
 | any=>exact fun _ _ _ _ _ _=>trivial
 | nils=>exact fun _ _ _ _ _ h=>h
 | int k n=>exact fun _ _ _ _ _ h=>h
 | bool b=>exact fun _ _ _ _ _ h=>h
 | str s=>exact fun _ _ _ _ _ h=>h
 | ints l=>exact fun _ _ _ _ _ h=>h
 | bools l=>exact fun _ _ _ _ _ h=>h
 | sl m n f _=>exact fun _ _ _ _ _ h=>h
 | fp m f _=>exact fun _ _ _ _ _ h=>h
 | agg m f ih=>exact fun hb=>Hd.agg fun j hj=>ih j (zq.1 hb j (zw.2 hj))
 | tup m f ih=>exact fun hb=>Hd.tup fun j hj=>ih j (zq.1 hb j (zw.2 hj))
 | ref k j=>exact fun hb=>by cases hb
 | msl k m o n=>exact fun hb=>by cases hb
 | mp k m i j=>exact fun hb=>by cases hb
 | fn g m c ih=>exact fun hb M w ρ v ⟨cs,e,hs,hc⟩=>⟨cs,e,hs,fun j hj=>let ⟨u,h1,h2⟩:=hc j hj;⟨u,h1,ih j (zq.1 hb j (zw.2 hj)) M w ρ u h2⟩⟩
 | it k=>exact fun hb=>by cases hb
 | yl l=>exact fun _ _ _ _ _ h=>h
 | cst u=>exact fun _ _ _ _ _ h=>h
 | mse k m o n=>exact fun hb=>by cases hb
 | mri k i=>exact fun hb=>by cases hb
theorem ES.frameB {f:Nat} {ds:List DV} {d:DV} (h0:ES P Γ f ds [] d [] true) (h:DH) (FE:ds.all Gf=true):ES P Γ f ds h d h true:=h0.frame (fun x hx=>Nu (zq.1 FE x hx)) h
def TN:DV -> Bool
 | .int .. =>true
 | .bool _=>true
 | .tup m f=>(List.range m).all fun j=>match f j with
  | .int .. =>true
  | .bool _=>true
  | _=>false
 | _=>false
theorem mY {d:DV} (h:TN d=true):GU d:=by
 unfold TN at h;split at h
 ·exact GU.int _ _
 ·exact GU.bool _
 ·rename_i m f;refine GU.tup fun j hj=>?_
  have:=zq.1 h j (zw.2 hj);split at this
  ·rename_i e;rw [e];exact GU.int _ _
  ·rename_i e;rw [e];exact GU.bool _
  ·cases this
 ·cases h
def LM (h:DH):List DV -> List DV -> Prop
 | [],[]=>True
 | d::ds,d0::DI=>Ae h d d0/\ LM h ds DI
 | _,_=>False
theorem PD {h:DH}: ∀ {ds DI:List DV},LM h ds DI -> DI.length=ds.length/\ ∀ i,i<ds.length -> Ae h (ds.getD i .any) (DI.getD i .any)
 | [],[],_=>⟨rfl,fun i hi=>absurd hi (zy i)⟩
 | d::ds,d0::DI,⟨h1,h2⟩=>by
  obtain ⟨e,g⟩:=PD h2;refine ⟨by simp [e],fun i hi=>?_⟩;cases i with
  | zero=>exact h1
  | succ i=>exact g i (by simpa using hi)
 | [],_::_,h=>h.elim
 | _::_,[],h=>h.elim
theorem Ae.plain {h:DH} {d:DV} (hn:Gf d=true):Ae h d d:=Ae.nref (Nu hn)
theorem Ae.nils {h:DH}:Ae h .nils (.ints []):=fun _ _ _ _ _ _ _ hr=>AM.ints_nil _ _ _ _ (AJ.out _ (DB (M:=fun _=>False) (fun _ hb=>hb) []) hr)
theorem ES.snapB {f:Nat} {ds DI:List DV} {d:DV} (h0:ES P Γ f DI [] d [] true) (h:DH) (hs:LM h ds DI) (hd:TN d=true):ES P Γ f ds h d h true:=ES.snap h0 h (PD hs).1 (PD hs).2 (mY hd)
theorem AM.of_eq {d d':DV} (h:d=d'):AM d d':=by rw [h];exact AM.refl _
theorem Ko {M:Nat -> Prop} {w:World} {ρ:List AI} {v:Value} {l:List Int} (h:AJ M w (.ints l) ρ v):l.length<=LB:=let ⟨_,_,_,_,h,_⟩:=h;h
theorem km {x c:Int} (h1:x=c) (h2: -9223372036854775808<=c) (h3:c<=9223372036854775807):IntKind.i64.wrap x=c:=by
 subst h1;rw [zCW];omega
end
end Go.Proofs.YtgkhhfnhacibcaaGreatDoor
namespace Go.Proofs.YtgkhhfnhacibcaaGreatDoor
open Go.RowKit
def LO (w:World):Prop:=TabAt 1 Lib.deBruijn64tab w
def GG:Ax where
 ng:=2
 gi:=fun w=>LO w/\ 2<=w.heap.size
 st:=fun w w' h hu=>⟨fun j hj=>hu.cell (by show ¬ (2<=1);omega) (h.1 j hj),zt h.2 hu.size⟩
 lo:=fun w h=>h.2
end Go.Proofs.YtgkhhfnhacibcaaGreatDoor
namespace Go.Proofs.YtgkhhfnhacibcaaGreatDoor
abbrev zBr:=@List.all_cons
end Go.Proofs.YtgkhhfnhacibcaaGreatDoor
namespace Go.Proofs.YtgkhhfnhacibcaaGreatDoor
open Go.RowKit
theorem FF {α:Type} {c:Prop} [Decidable c] {a:Option α} {r:α} (h:(if c then a else none)=some r):c/\ a=some r:=by
 split at h
 ·exact ⟨by assumption,h⟩
 ·cases h
theorem j5 {α β:Type} {o:Option β} {f:β -> Option α} {r:α} (h:o.bind f=some r): ∃ v,o=some v/\ f v=some r:=by
 cases o with
 | none=>cases h
 | some v=>exact ⟨v,rfl,h⟩
theorem J1 {α:Type} {b:Bool} {x y:Option α} {r:α} (h:(bif b then x else y)=some r):(b=true/\ x=some r)∨(b=false/\ y=some r):=by
 cases b
 ·exact .inr ⟨rfl,h⟩
 ·exact .inl ⟨rfl,h⟩
def pY:Int -> Bool
 | .ofNat n=>Nat.ble n 9223372036854775807
 | .negSucc n=>Nat.ble n 9223372036854775807
def AH (x:Int):Prop:=pY x=true
instance (x:Int):Decidable (AH x):=by unfold AH;infer_instance
theorem Aq {x:Int}:AH x↔-9223372036854775808<=x/\ x<=9223372036854775807:=by
 unfold AH;cases x with
 | ofNat n=>
  show Nat.ble n 9223372036854775807=true↔_
  rw [Nat.ble_eq];simp only [Int.ofNat_eq_natCast];omega
 | negSucc n=>
  show Nat.ble n 9223372036854775807=true↔_
  rw [Nat.ble_eq];omega
theorem kn {x:Int} (h:AH x):AM (.int .i64 (IntKind.i64.wrap x)) (.int .i64 x):=AM.int (km rfl (Aq.1 h).1 (Aq.1 h).2)
def comp (live σ:List Nat) (S:St):St:=FH σ ⟨forget live S.fr,S.h⟩
def JE (σ:List Nat) (L n:Nat):Bool:=decide σ.Nodup&&σ.all (fun k=>decide (k<n))&&(List.range L).all fun k=>decide (σ[k]? =some k)
theorem BI.comp {L:Nat} (live σ:List Nat) (S:St) (h:JE σ L S.h.length=true):BI L S (comp live σ S):=by
 simp only [JE,zm,zAP,zq,zw] at h;exact (BI.forget live S.fr S.h).trans (BI.compact σ _ h.1.1 (fun k hk=>h.1.2 k hk) (fun k hk=>h.2 k hk))
def Qh (live σ:List Nat) (L:Nat) (r:KO×St×List Prop×Bs):KO×List DV×DH×List Prop×List (DV×DH×Bool)×List (Nat×DV)×Bool:=(r.1,(Proofs.YtgkhhfnhacibcaaGreatDoor.comp live σ r.2.1).fr,(Proofs.YtgkhhfnhacibcaaGreatDoor.comp live σ r.2.1).h,r.2.2.1,r.2.2.2.calls,r.2.2.2.co,JE σ L r.2.1.h.length)
section
variable {P:Program} {Γ:Ax} {F:Fence} {B:Option Nat} {L:Nat} {Y N:BU P Γ L} {Q:QY P Γ L}
theorem qJ {Ar:BV} {n:Nat} {k:List KI} {S:St} {o:Bs} {live σ:List Nat} {r:KO} {fr:List DV} {h':DH} {vs:List Prop} (h:(Bp P Γ Ar n k S o).map (Qh live σ L)=some (r,fr,h',vs,[],[],true)):
 ∃ S' o',Bp P Γ Ar n k S o=some (r,S',vs,o')/\ BI L S' ⟨fr,h'⟩:=by
 cases hr:Bp P Γ Ar n k S o with
 | none=>rw [hr] at h;cases h
 | some r=>
  obtain ⟨r1,S1,CV,⟨c1,o1,z1,g1⟩⟩:=r;rw [hr] at h;simp only [zAR,Qh,zAw,zBJ] at h;obtain ⟨rfl,rfl,rfl,rfl,rfl,rfl,hs⟩:=h;exact ⟨S1,_,rfl,BI.comp live σ S1 hs⟩
def Hz:List KI -> Bool
 | .code _::_=>true
 | .loopN _ _::_=>true
 | _=>false
theorem I5.weaken {b:Code} {m:Nat} {S S':St} (hS:BI L S S') (h:I5 P Γ F B L b Q m S' Y):I5 P Γ F B L b Q m S Y:=by
 cases m with
 | zero=>exact h.elim
 | succ m=>exact Tr.weaken hS h
theorem BN.le {k:List KI} {S S':St} (hS:BI L S S') (hc:Hz k=true) (h:At P Γ F B L Y Q k S'):At P Γ F B L Y Q k S:=by
 unfold Hz at hc;split at hc
 ·exact At.weaken hS h ⟨_,_,rfl⟩
 ·exact I5.weaken hS h
 ·cases hc
theorem BI.frzE {S:St} (k:Nat) (S':St) (vs:List Prop) (h:Rt k S=some (S',vs)) (hv:Bb vs):BI L S S':=fun P Γ N ρ a w R=>
 ⟨ρ,(DY.frzE k S' vs h hv P Γ N ρ a w R).1,(DY.frzE k S' vs h hv P Γ N ρ a w R).2,EI.refl _ _⟩
theorem BI.compE {S:St} (σ:List Nat) (h:JE σ L S.h.length=true):BI L S (FH σ S):=by
 simp only [JE,zm,zAP,zq,zw] at h;exact BI.compact σ _ h.1.1 (fun k hk=>h.1.2 k hk) (fun k hk=>h.2 k hk)
def Xl:Option DO -> Bool
 | some (.iter _)=>false
 | _=>true
theorem fE {h:DH} (hb:h.all Xl=true):Qr h:=fun k encs hk=>by
 have:=zq.1 hb _ (zAX hk);cases this
theorem Ae.refL {h:DH} {k:Nat} {l l0:List DV} (hk:h[k]? =some (some (.cells l))) (hs:LM h l l0):Ae h (.ref k 0) (.fp l.length (fun j=>l0.getD j .any)):=
 Ae.ref hk (zAF _) fun j hj=>(PD hs).2 j hj
theorem Ae.fnL {h:DH} {g:Nat} {l l0:List DV} (hs:LM h l l0):Ae h (.fn g l.length (fun j=>l.getD j .any)) (.fn g l.length (fun j=>l0.getD j .any)):=by
 rintro P Γ N ρ w v H ⟨lb,e,hl,hc⟩;exact ⟨lb,e,hl,fun j hj=>let ⟨u,h1,h2⟩:=hc j hj;⟨u,h1,(PD hs).2 j hj P Γ N ρ w u H h2⟩⟩
theorem AM.ixI (l:List Int) {n:Int} {m:Nat} (hm:m=l.length) (h:(0:Int)<=n/\ n<((m:Nat):Int)):AM ((l.map (DV.int .i64)).getD n.toNat .any) (.int .i64 (l.getD n.toNat 0)):=by
 subst hm;have hl:n.toNat<l.length:=by omega
 have:(l.map (DV.int .i64)).getD n.toNat .any= .int .i64 (l.getD n.toNat 0):=by simp [hl]
 rw [this];exact AM.refl _
theorem AM.mslN {k m o n n':Nat} (h:n=n'):AM (.msl k m o n) (.msl k m o n'):=by rw [h];exact AM.refl _
def oN:DO -> Bool
 | .ints _=>true
 | .bools _=>true
 | _=>false
theorem ES.snapNew {f:Nat} {ds DI:List DV} {m n:Nat} {o:DO} (h0:ES P Γ f DI [] (.msl 0 m 0 n) [some o] true) (h:DH) (hs:LM h ds DI) (ho:oN o=true):ES P Γ f ds h (.msl h.length m 0 n) (h++[some o]) true:=by
 obtain ⟨hl,hs⟩:=PD hs;refine ⟨h0.1,fun N ρ w args HR B9=>?_⟩;refine (h0.2 (fun _=>False) [] w args (OM (fun b hb=>hb.elim) HR.gi) ⟨by rw [hl];exact B9.1,fun i hi=>?_⟩).mono ?_
 ·rw [hl] at hi;exact AJ.out _ (DB (fun b hb=>NG.1 hb) []) (hs i hi P Γ N ρ w _ HR (B9.2 i hi))
 ·rintro e w' ⟨v,rfl,⟨⟨ρ',g1,g2,g3,g4⟩,g5⟩⟩;have hE:=g5 rfl;obtain ⟨p,hp,Cx⟩:=g1.obj 0 o rfl;have hf: ∀ b,p.foot b -> w.heap.size<=b:=fun b hb=>(g3.grow b ⟨0,o,p,rfl,hp,hb⟩).resolve_left fun ⟨k,o',p',q1,_⟩=>by simp at q1
  obtain ⟨p',cap,Av,e1,e2,e3,e4⟩:=g2;have ep:p'=p:=zo (Av.symm.trans hp);subst ep;refine ⟨v,rfl,⟨⟨ρ++[p'],HR.snoc hE (fun b hb=>⟨hf b hb,(g1.cel 0 o p' b rfl hp hb).2.2⟩) ?_,⟨p',cap,by rw [←HR.len];simp,e1,e2,e3,e4⟩,A9.snoc HR hE hf,fun _ _ h=>Dg h⟩,g5⟩⟩;cases o with
  | ints l=>exact AU.out Cx rfl fun j u _ hu=>hu
  | bools l=>exact AU.out Cx rfl fun j u _ hu=>hu
  | cells l=>cases ho
  | arr m n f=>cases ho
  | iter encs=>cases ho
  | mo x=>cases ho
theorem aX {h:DH}: ∀ {ds:List DV},ds.all Gf=true -> LM h ds ds
 | [],_=>trivial
 | d::ds,hd=>by
  simp only [zBr,zm] at hd;exact ⟨Ae.plain hd.1,aX hd.2⟩
theorem AM.aggL {m:Nat} {l l':List DV} (hm:m=l.length) (h:J4 l l'):AM (.agg m (fun j=>l.getD j .any)) (.agg m (fun j=>l'.getD j .any)):=by
 subst hm;rintro M w ρ v ⟨cs,e,hs,hc⟩;exact ⟨cs,e,hs,fun j hj=>let ⟨u,h1,h2⟩:=hc j hj;⟨u,h1,(So h).2 j hj M w ρ u h2⟩⟩
theorem AM.tupL {m:Nat} {l l':List DV} (hm:m=l.length) (h:J4 l l'):AM (.tup m (fun j=>l.getD j .any)) (.tup m (fun j=>l'.getD j .any)):=by
 subst hm;rintro M w ρ v ⟨cs,e,hs,hc⟩;exact ⟨cs,e,hs,fun j hj=>let ⟨u,h1,h2⟩:=hc j hj;⟨u,h1,(So h).2 j hj M w ρ u h2⟩⟩
theorem Ae.dle {h:DH} {d d0:DV} (hn:Gf d=true) (hd:AM d d0):Ae h d d0:=fun P Γ N ρ w v H hr=>hd _ _ _ _ ((Ae.nref (Nu hn)) P Γ N ρ w v H hr)
theorem ES.argsLe {f:Nat} {ds DI:List DV} {h h':DH} {d:DV} {ext:Bool} (h0:ES P Γ f DI h d h' ext) (hd:J4 ds DI):ES P Γ f ds h d h' ext:=by
 obtain ⟨hl,hd⟩:=So hd;exact ⟨h0.1,fun N ρ w args HR B9=>h0.2 N ρ w args HR ⟨by rw [←hl];exact B9.1,fun i hi=>hd i (by omega) _ _ _ _ (B9.2 i (by omega))⟩⟩
theorem AM.mse_msl {k m o n n':Nat} (h:0<n) (e:n=n'):AM (.mse k m o n) (.msl k m o n'):=by
 subst e;rintro M w ρ v ⟨p,a,cap,hp,rfl,h1,h2,h3⟩;obtain ⟨rfl,h4⟩:=h3 (by omega);exact ⟨p,cap,hp,rfl,h1,h2,h4⟩
theorem AM.mse_nil {k m o n:Nat} (h:n=0):AM (.mse k m o n) (.ints []):=by
 subst h;rintro M w ρ v ⟨p,a,cap,hp,rfl,h1,h2,h3⟩;exact ⟨a,cap,rfl,zBT _,zBT _,fun j hj=>absurd hj (zy j)⟩
theorem T4 {n:Nat} (h:(n==0)=false):0<n:=by
 have:n≠0:=by simpa using h
 omega
def KX (k off k':Nat):DV -> DV
 | .msl k1 m o n=>if k1=k/\ m=1/\ o=off then .msl k' 1 0 n else .msl k1 m o n
 | d=>d
def dI (k off:Nat) (S:St):Option (St×List Prop):=match S.h.getD k none with
 | some (.ints l)=>some (⟨S.fr.map (KX k off S.h.length),S.h.set k none++[some (.ints (l.drop off))]⟩,[off<=l.length])
 | _=>none
theorem BI.rootE {S:St} (k off:Nat) (S':St) (vs:List Prop) (h:dI k off S=some (S',vs)) (hv:Bb vs):BI L S S':=fun P Γ N ρ a w R=>by
 unfold dI at h;split at h
 ·rename_i l hl;cases h;have hv:=hv.1;have hk:=getD_some hl;obtain ⟨p,hp,hr⟩:=R.hr.obj k _ hk;have hr:AU w p l.length _:=hr;obtain ⟨hf,cs,t,c1,c2,c3,c4⟩:=hr
  let p':AI:={ p with off:=p.off+off }
  obtain ⟨g1,g2⟩:=R.hr.regrow (o':=.ints (l.drop off)) (p':=p') hk hp (AN.refl _ _) (fun b hb=>⟨.inl hb,(R.hr.cel k _ p b hk hp hb).2.2⟩) (by
   refine ⟨hf,cs,t,c1,?_,c3,fun j hj=>?_⟩
   ·simp only [zB6,p'];omega
   ·rw [zB6] at hj;obtain ⟨u,q1,q2⟩:=c4 (off+j) (by omega);refine ⟨u,by rw [←q1];simp only [p',zAg],?_⟩;rw [q2];simp [u8,zBI])
  have O:BO (MS N S.h ρ) w ρ (MS N (S.h.set k none++[some (.ints (l.drop off))]) (ρ++[p'])) w (ρ++[p']):=⟨fun _ _ _ _=>rfl,fun b hb=>hb.elim (fun h=>.inl (.inl h)) fun h=>(g2.grow b h).imp .inr id,fun _ _ h=>Dg h⟩;refine ⟨ρ++[p'],⟨g1,by simp [R.fr.1],fun i hi=>?_⟩,g2,fun _ _ _ h=>Dg h⟩;have A3:i<S.fr.length:=by simpa using hi
  have e:(S.fr.map (KX k off S.h.length)).getD i .any=KX k off S.h.length (S.fr.getD i .any):=by simp [A3]
  show AJ _ w ((S.fr.map (KX k off S.h.length)).getD i .any) _ _
  rw [e];have r0:=R.fr.2 i A3;cases hd:S.fr.getD i .any with
  | msl k1 m o n=>
   rw [hd] at r0
   by_cases hc:k1=k/\ m=1/\ o=off
   ·have e2:KX k off S.h.length (.msl k1 m o n)= .msl S.h.length 1 0 n:=by simp only [KX,zi hc]
    rw [e2];obtain ⟨h1,h2,h3⟩:=hc;rw [h1,h2,h3] at r0;obtain ⟨q,cap,hq,hu,u1,u2,u3⟩:=r0;have eq:q=p:=zo (hq.symm.trans hp);subst eq;exact ⟨p',cap,by rw [←R.hr.len];simp,by rw [hu];simp [p'],u1,u2,by simp only [p'];omega⟩
   ·have e2:KX k off S.h.length (.msl k1 m o n)= .msl k1 m o n:=by simp only [KX,zr hc]
    rw [e2];exact AJ.out _ O r0
  | _=>rw [hd] at r0;exact AJ.out _ O r0
 ·cases h
theorem AM.msl_mse {k m o n:Nat}:AM (.msl k m o n) (.mse k m o n):=fun _ _ _ _ ⟨p,cap,hp,hv,h1,h2,h3⟩=>⟨p,_,cap,hp,hv,h1,h2,fun _=>⟨rfl,h3⟩⟩
def MD (k q:Nat):DV -> DV
 | .msl k1 m o n=>if k1=k then .msl q m o n else .msl k1 m o n
 | .mse k1 m o n=>if k1=k then .mse q m o n else .mse k1 m o n
 | d=>d
def mapOb (g:DV -> DV):Option DO -> Option DO
 | some (.cells l)=>some (.cells (l.map g))
 | o=>o
def fM (k:Nat) (S:St):Option St:=match S.h.getD k none with
 | some (.ints l)=>some ⟨S.fr.map (MD k S.h.length),(S.h.set k none++[some (DO.ints l)]).map (mapOb (MD k S.h.length))⟩
 | _=>none
theorem Qw {g:DV -> DV} {h:DH} {k:Nat} {o':DO} (hk:(h.map (mapOb g))[k]? =some (some o')): ∃ o,h[k]? =some (some o)/\ mapOb g (some o)=some o':=by
 rw [z6] at hk;cases hx:h[k]? with
 | none=>rw [hx] at hk;cases hk
 | some x=>
  rw [hx] at hk;have hk:mapOb g x=some o':=zo hk;cases x with
  | none=>cases hk
  | some o=>exact ⟨o,rfl,hk⟩
theorem MO.mapOb {g:DV -> DV} {h:DH} {ρ:List AI} {b:Nat}:MO (h.map (mapOb g)) ρ b↔MO h ρ b:=by
 constructor
 ·rintro ⟨k,o',p,h1,h2,h3⟩;obtain ⟨o,g1,_⟩:=Qw h1;exact ⟨k,o,p,g1,h2,h3⟩
 ·rintro ⟨k,o,p,h1,h2,h3⟩;cases o with
  | cells l=>exact ⟨k,.cells (l.map g),p,by rw [z6,h1];rfl,h2,h3⟩
  | _=>exact ⟨k,_,p,by rw [z6,h1];rfl,h2,h3⟩
theorem BP.mapCells {N:Nat -> Prop} {h:DH} {ρ:List AI} {w:World} (H:BP P Γ N h ρ w) {g:DV -> DV} (hg: ∀ d u,AJ (MS N h ρ) w d ρ u -> AJ (MS N h ρ) w (g d) ρ u):BP P Γ N (h.map (mapOb g)) ρ w:=by
 have hM: ∀ b,MS N (h.map (mapOb g)) ρ b -> MS N h ρ b:=fun b hb=>hb.imp id MO.mapOb.1
 refine ⟨by rw [H.len];simp,fun k o' hk=>?_,fun k o' p b h1 h2 h3=>?_,fun k k' o1 o2 p1 p2 b AQ h1 h2 h3 h4 h5 h6=>?_,H.nlt,H.gi⟩
 ·obtain ⟨o,h1,h2⟩:=Qw hk;obtain ⟨p,hp,hr⟩:=H.obj k o h1;refine ⟨p,hp,?_⟩;have O:BO (MS N h ρ) w ρ (MS N (h.map (mapOb g)) ρ) w ρ:=⟨fun _ _ _ _=>rfl,fun b hb=>.inl (hM b hb),fun _ _ h=>h⟩;cases o with
  | cells l=>
   cases h2
   show AU w p (l.map g).length _
   rw [zAl];refine AU.out hr rfl fun j u hj hu=>?_
   have e:(l.map g).getD j .any=g (l.getD j .any):=by simp [hj]
   rw [e];exact AJ.out _ O (hg _ _ hu)
  | ints l=>cases h2;exact AU.out hr rfl fun j u _ hu=>hu
  | bools l=>cases h2;exact AU.out hr rfl fun j u _ hu=>hu
  | arr m n f=>cases h2;exact AU.out hr rfl fun j u _ hu=>AJ.out _ O.nil hu
  | iter encs=>
   cases h2;obtain ⟨gf,lb,Rd,q1,q2,q3,q4⟩:=hr;exact ⟨gf,lb,Rd,q1,q2,fun b hb=>⟨fun hm=>(q3 b hb).1 (hM b hm),(q3 b hb).2⟩,q4⟩
  | mo x=>cases h2;exact hr
 ·obtain ⟨o,g1,_⟩:=Qw h1;exact H.cel k o p b g1 h2 h3
 ·obtain ⟨o,g1,_⟩:=Qw h1;obtain ⟨o',g2,_⟩:=Qw h2;exact H.dis k k' o o' p1 p2 b AQ g1 g2 h3 h4 h5 h6
theorem BI.moveE {S:St} (k:Nat) (S':St) (h:fM k S=some S'):BI L S S':=fun P Γ N ρ a w R=>by
 unfold fM at h;split at h
 ·rename_i l hl;cases h;have hk:=getD_some hl;obtain ⟨p,hp,hr⟩:=R.hr.obj k _ hk;obtain ⟨g1,g2⟩:=R.hr.regrow (o':=.ints l) (p':=p) hk hp (AN.refl _ _) (fun b hb=>⟨.inl hb,(R.hr.cel k _ p b hk hp hb).2.2⟩) hr;have D9: ∀ (i:Nat) (q:AI),ρ[i]? =some q -> (ρ++[p])[i]? =some q:=fun _ _ h=>Dg h
  have O:BO (MS N S.h ρ) w ρ (MS N (S.h.set k none++[some (DO.ints l)]) (ρ++[p])) w (ρ++[p]):=⟨fun _ _ _ _=>rfl,fun b hb=>hb.elim (fun h=>.inl (.inl h)) fun h=>(g2.grow b h).imp .inr id,D9⟩;have hq:(ρ++[p])[S.h.length]? =some p:=by rw [←R.hr.len];simp
  have mv: ∀ {M:Nat -> Prop} (d:DV) (u:Value),AJ M w d (ρ++[p]) u -> AJ M w (MD k S.h.length d) (ρ++[p]) u:=fun {M} d u hd=>by
   unfold MD;split
   ·rename_i k1 m o n;split
    ·rename_i e;obtain ⟨q,cap,OO,r⟩:=hd;subst e;have:q=p:=zo (OO.symm.trans (D9 _ _ hp));subst this;exact ⟨q,cap,hq,r⟩
    ·exact hd
   ·rename_i k1 m o n;split
    ·rename_i e;obtain ⟨q,a0,cap,OO,r⟩:=hd;subst e;have:q=p:=zo (OO.symm.trans (D9 _ _ hp));subst this;exact ⟨q,a0,cap,hq,r⟩
    ·exact hd
   ·exact hd
  have R1:=g1.mapCells (g:=MD k S.h.length) fun d u=>mv d u
  have hM: ∀ b,MS N ((S.h.set k none++[some (DO.ints l)]).map (mapOb (MD k S.h.length))) (ρ++[p]) b -> MS N (S.h.set k none++[some (DO.ints l)]) (ρ++[p]) b:=fun b hb=>hb.imp id MO.mapOb.1
  have O2:BO (MS N (S.h.set k none++[some (DO.ints l)]) (ρ++[p])) w (ρ++[p]) (MS N ((S.h.set k none++[some (DO.ints l)]).map (mapOb (MD k S.h.length))) (ρ++[p])) w (ρ++[p]):=⟨fun _ _ _ _=>rfl,fun b hb=>.inl (hM b hb),fun _ _ h=>h⟩;exact ⟨ρ++[p],⟨R1,((R.fr.out O).map fun d u=>mv d u).out O2⟩,⟨g2.upd,fun b hb=>g2.grow b (MO.mapOb.1 hb)⟩,fun _ _ _ h=>Dg h⟩
 ·cases h
end
end Go.Proofs.YtgkhhfnhacibcaaGreatDoor
namespace Go.Proofs.YtgkhhfnhacibcaaGreatDoor
open Go.RowKit
def Ch (σ:List Nat) (b k:Nat):Nat:=if k<σ.length then σ.getD k 0 else b+(k-σ.length)
def up (σ:List Nat) (b:Nat):DV -> DV
 | .ref k j=>.ref (Ch σ b k) j
 | .msl k m o n=>.msl (Ch σ b k) m o n
 | .mse k m o n=>.mse (Ch σ b k) m o n
 | .mri k i=>.mri (Ch σ b k) i
 | .mp k m i j=>.mp (Ch σ b k) m i j
 | .it k=>.it (Ch σ b k)
 | .agg m f=>.agg m (GC m fun j=>up σ b (f j))
 | .tup m f=>.tup m (GC m fun j=>up σ b (f j))
 | .fn g m c=>.fn g m (GC m fun j=>up σ b (c j))
 | d=>d
def Cj (σ:List Nat) (b:Nat):Option DO -> Option DO
 | some (.cells l)=>some (.cells (l.map (up σ b)))
 | o=>o
def Cp (H:DH) (σ:List Nat) (h':DH):DH:=((List.range H.length).map fun k=>match Ct σ k with
 | some i=>Cj σ H.length (h'.getD i none)
 | none=>H.getD k none)++(h'.drop σ.length).map (Cj σ H.length)
theorem Ni {σ:List Nat} (hn:σ.Nodup) {i k:Nat} (h:σ[i]? =some k):Ct σ k=some i:=by
 induction σ generalizing i with
 | nil=>simp at h
 | cons x σ ih=>
  unfold Ct;cases i with
  | zero=>
   have:x=k:=by simpa using h
   rw [zi this]
  | succ i=>
   have h':σ[i]? =some k:=by simpa using h
   have AQ:x≠k:=by
    rintro rfl;exact (zCD.1 hn).1 (zAX h')
   rw [zr AQ,ih (zCD.1 hn).2 h'];rfl
theorem NK {σ:List Nat} {b:Nat} {x:Option DO} {o:DO} (h:Cj σ b x=some o): ∃ o0,x=some o0:=by
 cases x with
 | none=>cases h
 | some o0=>exact ⟨o0,rfl⟩
section
variable {P:Program} {Γ:Ax}
theorem bJ {M M':Nat -> Prop} {w:World} {σ:List Nat} {b:Nat} {ρ ρ':List AI} (hM: ∀ b,M' b -> M b) (hρ: ∀ (k:Nat) (p:AI),ρ[k]? =some p -> ρ'[Ch σ b k]? =some p): ∀ (d:DV) {v:Value},AJ M w d ρ v -> AJ M' w (up σ b d) ρ' v:=by
 have low: ∀ (d:DV) {v:Value},AJ M w d [] v -> AJ M' w d [] v:=fun d v h=>h.out d (DB hM [])
 intro d
 induction d with
 | any=>intro v _;trivial
 | nils=>intro v h;exact h
 | int k n=>intro v h;exact h
 | bool b=>intro v h;exact h
 | str s=>intro v h;exact h
 | ints l=>intro v h;exact low (.ints l) h
 | bools l=>intro v h;exact low (.bools l) h
 | sl m n f _=>intro v h;exact low (.sl m n f) h
 | fp m f _=>intro v h;exact low (.fp m f) h
 | agg m f ih=>
  rintro v ⟨cs,e,hs,h⟩;exact ⟨cs,e,hs,fun j hj=>let ⟨u,h1,h2⟩:=h j hj;⟨u,h1,Hh hj (ih j h2)⟩⟩
 | tup m f ih=>
  rintro v ⟨cs,e,hs,h⟩;exact ⟨cs,e,hs,fun j hj=>let ⟨u,h1,h2⟩:=h j hj;⟨u,h1,Hh hj (ih j h2)⟩⟩
 | fn g m c ih=>
  rintro v ⟨cs,e,hs,h⟩;exact ⟨cs,e,hs,fun j hj=>let ⟨u,h1,h2⟩:=h j hj;⟨u,h1,Hh hj (ih j h2)⟩⟩
 | ref k j=>rintro v ⟨p,hp,r⟩;exact ⟨p,hρ k p hp,r⟩
 | msl k m o n=>rintro v ⟨p,cap,hp,r⟩;exact ⟨p,cap,hρ k p hp,r⟩
 | mp k m i j=>rintro v ⟨p,hp,r⟩;exact ⟨p,hρ k p hp,r⟩
 | it k=>rintro v ⟨p,hp,r⟩;exact ⟨p,hρ k p hp,r⟩
 | cst u=>intro v h;exact h
 | yl l=>intro v h;exact h
 | mse k m o n=>rintro v ⟨p,a,cap,hp,r⟩;exact ⟨p,a,cap,hρ k p hp,r⟩
 | mri k i=>rintro v ⟨p,vs,hp,r⟩;exact ⟨p,vs,hρ k p hp,r⟩
theorem Zy {M M':Nat -> Prop} {w:World} {σ:List Nat} {b:Nat} {ρ ρ':List AI} (hM: ∀ b,M' b -> M b) (hρ: ∀ (k:Nat) (p:AI),ρ[Ch σ b k]? =some p -> ρ'[k]? =some p): ∀ (d:DV) {v:Value},AJ M w (up σ b d) ρ v -> AJ M' w d ρ' v:=by
 have low: ∀ (d:DV) {v:Value},AJ M w d [] v -> AJ M' w d [] v:=fun d v h=>h.out d (DB hM [])
 have WU: ∀ {m j:Nat} {f:Nat -> DV} {u:Value},j<m -> AJ M w (GC m f j) ρ u -> AJ M w (f j) ρ u:=fun hj h=>by rw [TC hj] at h;exact h
 intro d
 induction d with
 | any=>intro v _;trivial
 | nils=>intro v h;exact h
 | int k n=>intro v h;exact h
 | bool b=>intro v h;exact h
 | str s=>intro v h;exact h
 | ints l=>intro v h;exact low (.ints l) h
 | bools l=>intro v h;exact low (.bools l) h
 | sl m n f _=>intro v h;exact low (.sl m n f) h
 | fp m f _=>intro v h;exact low (.fp m f) h
 | agg m f ih=>
  rintro v ⟨cs,e,hs,h⟩;exact ⟨cs,e,hs,fun j hj=>let ⟨u,h1,h2⟩:=h j hj;⟨u,h1,ih j (WU hj h2)⟩⟩
 | tup m f ih=>
  rintro v ⟨cs,e,hs,h⟩;exact ⟨cs,e,hs,fun j hj=>let ⟨u,h1,h2⟩:=h j hj;⟨u,h1,ih j (WU hj h2)⟩⟩
 | fn g m c ih=>
  rintro v ⟨cs,e,hs,h⟩;exact ⟨cs,e,hs,fun j hj=>let ⟨u,h1,h2⟩:=h j hj;⟨u,h1,ih j (WU hj h2)⟩⟩
 | ref k j=>rintro v ⟨p,hp,r⟩;exact ⟨p,hρ k p hp,r⟩
 | msl k m o n=>rintro v ⟨p,cap,hp,r⟩;exact ⟨p,cap,hρ k p hp,r⟩
 | mp k m i j=>rintro v ⟨p,hp,r⟩;exact ⟨p,hρ k p hp,r⟩
 | it k=>rintro v ⟨p,hp,r⟩;exact ⟨p,hρ k p hp,r⟩
 | cst u=>intro v h;exact h
 | yl l=>intro v h;exact h
 | mse k m o n=>rintro v ⟨p,a,cap,hp,r⟩;exact ⟨p,a,cap,hρ k p hp,r⟩
 | mri k i=>rintro v ⟨p,vs,hp,r⟩;exact ⟨p,vs,hρ k p hp,r⟩
theorem lU {M M':Nat -> Prop} {w:World} {σ:List Nat} {b:Nat} {ρ ρ':List AI} {p:AI} (hM: ∀ b,M' b -> M b) (hρ: ∀ (k:Nat) (p:AI),ρ[k]? =some p -> ρ'[Ch σ b k]? =some p) {o o':DO} (ho:Cj σ b (some o)=some o') (h:C7 P M w ρ p o):C7 P M' w ρ' p o':=by
 cases o with
 | cells l=>
  cases ho
  show AU w p (l.map (up σ b)).length _
  rw [zAl];refine AU.out h rfl fun j u hj hu=>?_
  have:(l.map (up σ b)).getD j .any=up σ b (l.getD j .any):=by simp [hj]
  rw [this];exact bJ hM hρ _ hu
 | ints l=>cases ho;exact AU.out h rfl fun j u _ hu=>hu
 | bools l=>cases ho;exact AU.out h rfl fun j u _ hu=>hu
 | arr m n f=>cases ho;exact AU.out h rfl fun j u _ hu=>AJ.out _ (DB hM []) hu
 | iter encs=>
  cases ho;obtain ⟨gf,lb,Rd,q1,q2,q3,q4⟩:=h;exact ⟨gf,lb,Rd,q1,q2,fun b hb=>⟨fun hm=>(q3 b hb).1 (hM b hm),(q3 b hb).2⟩,q4⟩
 | mo x=>cases ho;exact h
theorem jW {M M':Nat -> Prop} {w:World} {σ:List Nat} {b:Nat} {ρ ρ':List AI} {p:AI} (hM: ∀ b,M' b -> M b) (hρ: ∀ (k:Nat) (p:AI),ρ[Ch σ b k]? =some p -> ρ'[k]? =some p) {o o':DO} (ho:Cj σ b (some o)=some o') (h:C7 P M w ρ p o'):C7 P M' w ρ' p o:=by
 cases o with
 | cells l=>
  cases ho;have h:AU w p (l.map (up σ b)).length _:=h;rw [zAl] at h;refine AU.out h rfl fun j u hj hu=>?_
  have:(l.map (up σ b)).getD j .any=up σ b (l.getD j .any):=by simp [hj]
  rw [this] at hu;exact Zy hM hρ _ hu
 | ints l=>cases ho;exact AU.out h rfl fun j u _ hu=>hu
 | bools l=>cases ho;exact AU.out h rfl fun j u _ hu=>hu
 | arr m n f=>cases ho;exact AU.out h rfl fun j u _ hu=>AJ.out _ (DB hM []) hu
 | iter encs=>
  cases ho;obtain ⟨gf,lb,Rd,q1,q2,q3,q4⟩:=h;exact ⟨gf,lb,Rd,q1,q2,fun b hb=>⟨fun hm=>(q3 b hb).1 (hM b hm),(q3 b hb).2⟩,q4⟩
 | mo x=>cases ho;exact h
theorem ES.embed {f:Nat} {ds:List DV} {h:DH} {d:DV} {h':DH} {ext:Bool} (EU:ES P Γ f ds h d h' ext) (σ:List Nat) (H:DH) (hn:σ.Nodup) (AK: ∀ k∈σ,k<H.length) (hl:σ.length=h.length) (EA:h.length<=h'.length)
 (hh:(σ.map fun k=>H.getD k none)=h.map (Cj σ H.length)):ES P Γ f (ds.map (up σ H.length)) H (up σ H.length d) (Cp H σ h') ext:=by
 refine ⟨EU.1,fun N ρ w args HR B9=>?_⟩;obtain ⟨ρ0,RD⟩: ∃ ρ0,ρ0=σ.map fun k=>ρ.getD k Xk:=⟨_,rfl⟩
 have Q4:ρ0.length=σ.length:=by rw [RD];simp
 have Ei: ∀ {i k:Nat},σ[i]? =some k -> ρ0[i]? =ρ[k]? :=fun {i k} hk=>by
  have CZ:k<ρ.length:=by rw [HR.len];exact AK k (zAX hk)
  rw [RD,z6,hk];simp [CZ]
 have JF: ∀ {i:Nat},i<σ.length -> ∃ k,σ[i]? =some k/\ Ch σ H.length i=k:=fun {i} hi=>by
  refine ⟨σ[i],by simp [hi],?_⟩;unfold Ch;rw [zi hi];simp [hi]
 have GH: ∀ {i:Nat} {o:DO},h[i]? =some (some o) -> ∃ k o',σ[i]? =some k/\ H[k]? =some (some o')/\ Cj σ H.length (some o)=some o':=fun {i o} hi=>by
  have CS:i<σ.length:=by rw [hl];exact (zp.1 hi).1
  obtain ⟨k,hk,_⟩:=JF CS;have e:=congrArg (·[i]?) hh;simp only [z6,hk,hi,zAR] at e;have Bm:=AK k (zAX hk);have e:H.getD k none=Cj σ H.length (some o):=zo e;have e2: ∃ o',Cj σ H.length (some o)=some o':=by cases o <;> exact ⟨_,rfl⟩
  obtain ⟨o',Gi⟩:=e2;refine ⟨k,o',hk,?_,Gi⟩;rw [Gi] at e;rw [zf Bm];rw [u8,zf Bm] at e;exact congrArg some e
 have ea: ∀ {i k:Nat} {o':DO},σ[i]? =some k -> H[k]? =some (some o') -> ∃ o,h[i]? =some (some o)/\ Cj σ H.length (some o)=some o':=fun {i k o'} hk ho=>by
  have CS:i<h.length:=by rw [←hl];exact (zp.1 hk).1
  have e:=congrArg (·[i]?) hh;simp only [z6,hk,zf CS,zAR] at e;have e:H.getD k none=Cj σ H.length h[i]:=zo e;rw [VJ ho] at e;obtain ⟨o0,e0⟩:=NK e.symm;exact ⟨o0,by rw [zf CS,e0],by rw [e0] at e;exact e.symm⟩
 obtain ⟨N0,F3⟩: ∃ N0:Nat -> Prop,N0=fun b=>N b∨∃ k o p,Ct σ k=none/\ H[k]? =some (some o)/\ ρ[k]? =some p/\ p.foot b:=⟨_,rfl⟩
 have HI: ∀ b,MO h ρ0 b -> MO H ρ b:=by
  rintro b ⟨i,o,p,g1,g2,g3⟩;obtain ⟨k,o',e1,e2,_⟩:=GH g1;exact ⟨k,o',p,e2,(Ei e1).symm.trans g2,g3⟩
 have ME: ∀ b,MS N0 h ρ0 b -> MS N H ρ b:=by
  rintro b (hb | hb)
  ·rw [F3] at hb;rcases hb with hb | ⟨k,o,p,_,g1,g2,g3⟩
   ·exact .inl hb
   ·exact .inr ⟨k,o,p,g1,g2,g3⟩
  ·exact .inr (HI b hb)
 have ms1: ∀ b,MS N H ρ b -> MS N0 h ρ0 b:=by
  rintro b (hb | ⟨k,o,p,g1,g2,g3⟩)
  ·exact .inl (by rw [F3];exact .inl hb)
  ·cases hk:Ct σ k with
   | none=>exact .inl (by rw [F3];exact .inr ⟨k,o,p,hk,g1,g2,g3⟩)
   | some i=>
    have hi:=If hk;obtain ⟨o0,e1,_⟩:=ea hi g1;exact .inr ⟨i,o0,p,e1,(Ei hi).trans g2,g3⟩
 have dn: ∀ (k:Nat) (p:AI),ρ[Ch σ H.length k]? =some p -> ρ0[k]? =some p:=fun k p hp=>by
  by_cases hk:k<σ.length
  ·obtain ⟨k',e1,e2⟩:=JF hk;rw [e2] at hp;exact (Ei e1).trans hp
  ·unfold Ch at hp;rw [zr hk] at hp;have:=(zp.1 hp).1;rw [HR.len] at this;omega
 have foreign: ∀ {b:Nat},N0 b -> ¬ MO h ρ0 b:=by
  rintro b hb ⟨i,o,p,g1,g2,g3⟩;obtain ⟨k,o',e1,e2,_⟩:=GH g1;have hp:=(Ei e1).symm.trans g2;rw [F3] at hb;rcases hb with hb | ⟨k',o2,p2,q1,q2,q3,q4⟩
  ·exact (HR.cel k o' p b e2 hp g3).2.1 hb
  ·refine HR.dis k k' o' o2 p p2 b ?_ e2 q2 hp q3 g3 q4;rintro rfl;rw [Ni hn e1] at q1;cases q1
 have H0:BP P Γ N0 h ρ0 w:=by
  refine ⟨by rw [Q4,hl],fun i o hi=>?_,fun i o p b g1 g2 g3=>?_,fun i i' o1 o2 p1 p2 b AQ g1 g2 g3 g4 g5 g6=>?_,fun b hb=>HR.lt2 (ME b (.inl hb)),HR.gi⟩
  ·obtain ⟨k,o',e1,e2,e3⟩:=GH hi;obtain ⟨p,hp,hr⟩:=HR.obj k o' e2;exact ⟨p,(Ei e1).trans hp,jW ME dn e3 hr⟩
  ·obtain ⟨k,o',e1,e2,e3⟩:=GH g1;obtain ⟨q1,q2,q3⟩:=HR.cel k o' p b e2 ((Ei e1).symm.trans g2) g3;exact ⟨q1,fun hb=>foreign hb ⟨i,o,p,g1,g2,g3⟩,q3⟩
  ·obtain ⟨k,o',e1,e2,e3⟩:=GH g1;obtain ⟨k',Xf,Oy,SB,xV⟩:=GH g2;refine HR.dis k k' o' Xf p1 p2 b ?_ e2 SB ((Ei e1).symm.trans g3) ((Ei Oy).symm.trans g4) g5 g6;rintro rfl;have a1:=Ni hn e1;have a2:=Ni hn Oy;exact AQ (zo (a1.symm.trans a2))
 refine (EU.2 N0 ρ0 w args H0 ⟨by rw [←B9.1];simp,fun i hi=>?_⟩).mono ?_
 ·have:=B9.2 i (by simpa using hi);have e:(ds.map (up σ H.length)).getD i .any=up σ H.length (ds.getD i .any):=by simp [hi]
  rw [e] at this;exact Zy ME dn _ this
 ·rintro e w' ⟨v,rfl,⟨⟨ρ1,g1,g2,g3,g4⟩,g5⟩⟩;have l1:ρ1.length=h'.length:=g1.len;obtain ⟨ρ',Fv⟩: ∃ ρ',ρ'=ρ++ρ1.drop σ.length:=⟨_,rfl⟩
  have Sj: ∀ {i k:Nat},σ[i]? =some k -> ρ1[i]? =ρ[k]? :=fun {i k} hk=>by
   have CS:i<ρ0.length:=by rw [Q4];exact (zp.1 hk).1
   have:=g4 i ρ0[i] (by simp [CS]);rw [this,←Ei hk];simp [CS]
  have Eu: ∀ {k:Nat},k<H.length -> ρ'[k]? =ρ[k]? :=fun {k} hk=>by rw [Fv,zAC (by rw [HR.len];exact hk)]
  have PT: ∀ (k:Nat) (p:AI),ρ1[k]? =some p -> ρ'[Ch σ H.length k]? =some p:=fun k p hp=>by
   by_cases hk:k<σ.length
   ·obtain ⟨k',e1,e2⟩:=JF hk;rw [e2,Eu (AK k' (zAX e1)),←Sj e1];exact hp
   ·unfold Ch;rw [zr hk,Fv,zAN (by rw [HR.len];omega),zBI,HR.len];rw [show σ.length+(H.length+(k-σ.length)-H.length)=k by omega];exact hp
  have X0:(Cp H σ h').length=H.length+(h'.length-σ.length):=by simp [Cp]
  have GD: ∀ {k:Nat} {o':DO},(Cp H σ h')[k]? =some (some o') -> (k<H.length/\ Ct σ k=none/\ H[k]? =some (some o')/\ ρ'[k]? =ρ[k]?)∨∃ i o,h'[i]? =some (some o)/\ Cj σ H.length (some o)=some o'/\ ρ'[k]? =ρ1[i]? /\ k=Ch σ H.length i:=by
   intro k o' hk
   by_cases Bm:k<H.length
   ·unfold Cp at hk;rw [zAC (by simpa using Bm),z6,zBM Bm] at hk;simp only [zAR,zAw] at hk;split at hk
    ·rename_i i hi;have Jo:=If hi;obtain ⟨o0,e0⟩:=NK hk;have CS:i<h'.length:=zu (by rw [←hl];exact (zp.1 Jo).1) EA;rw [e0] at hk;refine .inr ⟨i,o0,?_,hk,?_,?_⟩
     ·rw [zf CS];rw [u8,zf CS] at e0;exact congrArg some e0
     ·rw [Eu Bm,Sj Jo]
     ·obtain ⟨k2,e1,e2⟩:=JF (zp.1 Jo).1;rw [e2];exact zo (Jo.symm.trans e1)
    ·rename_i hi;refine .inl ⟨Bm,hi,?_,Eu Bm⟩;rw [zf Bm];rw [u8,zf Bm] at hk;exact congrArg some hk
   ·unfold Cp at hk;rw [zAN (by simp;omega),z6,zBI] at hk;simp only [zAl,zBK] at hk;cases hx:h'[σ.length+(k-H.length)]? with
    | none=>rw [hx] at hk;cases hk
    | some x=>
     rw [hx] at hk;have hk:Cj σ H.length x=some o':=zo hk;obtain ⟨o0,e0⟩:=NK hk;subst e0;refine .inr ⟨σ.length+(k-H.length),o0,hx,hk,?_,?_⟩
     ·rw [Fv,zAN (by rw [HR.len];omega),zBI,HR.len]
     ·unfold Ch;rw [zr (by omega)];omega
  have back: ∀ {k:Nat} {o:DO},Ct σ k=none -> H[k]? =some (some o) -> (Cp H σ h')[k]? =some (some o):=by
   intro k o hk ho;have Bm:=(zp.1 ho).1;unfold Cp;rw [zAC (by simpa using Bm),z6,zBM Bm];simp only [zAR,hk,VJ ho]
  have fL: ∀ b,MS N (Cp H σ h') ρ' b -> MS N0 h' ρ1 b:=by
   rintro b (hb | ⟨k,o',p,q1,q2,q3⟩)
   ·exact .inl (by rw [F3];exact .inl hb)
   ·rcases GD q1 with ⟨a1,a2,a3,a4⟩ | ⟨i,o,a1,a2,a3,a4⟩
    ·exact .inl (by rw [F3];exact .inr ⟨k,o',p,a2,a3,a4.symm.trans q2,q3⟩)
    ·exact .inr ⟨i,o,p,a1,a3.symm.trans q2,q3⟩
  have grow: ∀ b,MO (Cp H σ h') ρ' b -> MO H ρ b∨w.heap.size<=b:=by
   rintro b ⟨k,o',p,q1,q2,q3⟩;rcases GD q1 with ⟨a1,a2,a3,a4⟩ | ⟨i,o,a1,a2,a3,a4⟩
   ·exact .inl ⟨k,o',p,a3,a4.symm.trans q2,q3⟩
   ·exact (g3.grow b ⟨i,o,p,a1,a3.symm.trans q2,q3⟩).imp (HI b) id
  have pl: ∀ (k:Nat) (p:AI),ρ[k]? =some p -> ρ'[k]? =some p:=fun k p hp=>by
   rw [Fv,zAC (zp.1 hp).1];exact hp
  have O:BO (MS N H ρ) w ρ (MS N (Cp H σ h') ρ') w' ρ':=
   ⟨fun b hb hm _=>g3.upd.block b hb fun hx=>hm (.inr (HI b hx)),fun b hb=>hb.elim (fun hb=>.inl (.inl hb)) (fun hb=>(grow b hb).imp .inr id),pl⟩
  refine ⟨v,rfl,⟨⟨ρ',⟨?_,fun k o' hk=>?_,fun k o' p b q1 q2 q3=>?_,fun k k' o1 o2 p1 p2 b AQ q1 q2 q3 q4 q5 q6=>?_,fun b hb=>⟨zu (HR.nlt b hb).1 g3.upd.size,(HR.nlt b hb).2⟩,g1.gi⟩,bJ fL PT _ g2,⟨g3.upd.mono fun b _ hb=>HI b hb,grow⟩,pl⟩,g5⟩⟩
  ·rw [X0,Fv];simp [HR.len,l1]
  ·rcases GD hk with ⟨a1,a2,a3,a4⟩ | ⟨i,o,a1,a2,a3,a4⟩
   ·obtain ⟨p,hp,hr⟩:=HR.obj k o' a3;refine ⟨p,a4.trans hp,hr.out O g3.upd (fun b hb=>.inr (HI b hb)) fun b _ hf hs=>?_⟩;exact foreign (by rw [F3];exact .inr ⟨k,o',p,a2,a3,hp,hf⟩) hs
   ·obtain ⟨p,hp,hr⟩:=g1.obj i o a1;exact ⟨p,a3.trans hp,lU fL PT a2 hr⟩
  ·rcases GD q1 with ⟨a1,a2,a3,a4⟩ | ⟨i,o,a1,a2,a3,a4⟩
   ·have hp:=a4.symm.trans q2;obtain ⟨c1,c2,c,t,z,c3⟩:=HR.cel k o' p b a3 hp q3;refine ⟨c1,c2,c,t,z,(g3.upd.block b (zj.1 c3).1 fun hx=>?_).trans c3⟩;exact foreign (by rw [F3];exact .inr ⟨k,o',p,a2,a3,hp,q3⟩) hx
   ·obtain ⟨c1,c2,c3⟩:=g1.cel i o p b a1 (a3.symm.trans q2) q3;exact ⟨c1,fun hb=>c2 (by rw [F3];exact .inl hb),c3⟩
  ·rcases GD q1 with ⟨a1,a2,a3,a4⟩ | ⟨i,o,a1,a2,a3,a4⟩
   ·rcases GD q2 with ⟨c1,c2,c3,c4⟩ | ⟨i',o',c1,c2,c3,c4⟩
    ·exact HR.dis k k' o1 o2 p1 p2 b AQ a3 c3 (a4.symm.trans q3) (c4.symm.trans q4) q5 q6
    ·exact (g1.cel i' o' p2 b c1 (c3.symm.trans q4) q6).2.1 (by rw [F3];exact .inr ⟨k,o1,p1,a2,a3,a4.symm.trans q3,q5⟩)
   ·rcases GD q2 with ⟨c1,c2,c3,c4⟩ | ⟨i',o',c1,c2,c3,c4⟩
    ·exact (g1.cel i o p1 b a1 (a3.symm.trans q3) q5).2.1 (by rw [F3];exact .inr ⟨k',o2,p2,c2,c3,c4.symm.trans q4,q6⟩)
    ·refine g1.dis i i' o o' p1 p2 b ?_ a1 c1 (a3.symm.trans q3) (c3.symm.trans q4) q5 q6;rintro rfl;exact AQ (a4.trans c4.symm)
def LD (σ:List Nat) (n l l':Nat):Bool:=decide σ.Nodup&&σ.all (fun k=>decide (k<n))&&decide (σ.length=l)&&decide (l<=l')
theorem ES.embedB {f:Nat} {ds:List DV} {h:DH} {d:DV} {h':DH} {ext:Bool} (EU:ES P Γ f ds h d h' ext) (σ:List Nat) (H:DH) (hb:LD σ H.length h.length h'.length=true) (hh:(σ.map fun k=>H.getD k none)=h.map (Cj σ H.length))
 {DW:List DV} {d1:DV} {H1:DH} (e:(ds.map (up σ H.length),up σ H.length d,Cp H σ h')=(DW,d1,H1)):ES P Γ f DW H d1 H1 ext:=by
 simp only [LD,zm,zAP,zq] at hb;cases e;exact EU.embed σ H hb.1.1.1 (fun k hk=>hb.1.1.2 k hk) hb.1.2 hb.2 hh
end
end Go.Proofs.YtgkhhfnhacibcaaGreatDoor
namespace Go.Proofs.YtgkhhfnhacibcaaGreatDoor
abbrev zAD:=@List.drop_eq_getElem_cons
abbrev zAT:=@Nat.le_of_ble_eq_true
abbrev zA7:=@of_decide_eq_true
end Go.Proofs.YtgkhhfnhacibcaaGreatDoor
namespace Go.Proofs.YtgkhhfnhacibcaaGreatDoor
open Go.RowKit
section
variable {P:Program} {Γ:Ax}
theorem BP.foreign {N1 N2 G:Nat -> Prop} {h:DH} {ρ:List AI} {A B:World} (H:BP P Γ N1 h ρ A) (hu:AN G A B) (hG: ∀ b,G b -> N1 b/\ Γ.ng<=b) (hN: ∀ b,N2 b -> N1 b∨A.heap.size<=b) (hb: ∀ b,N2 b -> b<B.heap.size/\ Γ.ng<=b):BP P Γ N2 h ρ B:=by
 have O:BO (MS N1 h ρ) A ρ (MS N2 h ρ) B ρ:=⟨fun b AK hm _=>hu.block b AK fun hx=>hm (.inl (hG b hx).1),fun b hb=>hb.elim (fun h=>(hN b h).imp .inl id) (fun h=>.inl (.inr h)),fun _ _ h=>h⟩;refine ⟨H.len,fun k o hk=>?_,fun k o p b h1 h2 h3=>?_,H.dis,hb,Γ.st _ _ H.gi (hu.mono fun i _ hx=>(hG i hx).2)⟩
 ·obtain ⟨p,hp,hr⟩:=H.obj k o hk;exact ⟨p,hp,hr.out O hu (fun b hb=>.inl (hG b hb).1) fun b _ hf hs=>(H.cel k o p b hk hp hf).2.1 (hG b hs).1⟩
 ·obtain ⟨c1,c2,c,t,z,c3⟩:=H.cel k o p b h1 h2 h3;have AK:=(zj.1 c3).1;exact ⟨c1,fun hn=>(hN b hn).elim c2 (by omega),c,t,z,(hu.block b AK fun hx=>c2 (hG b hx).1).trans c3⟩
theorem BO.foreign {N1 N2 G:Nat -> Prop} {h:DH} {ρ:List AI} {A B:World} (hu:AN G A B) (hG: ∀ b,G b -> N1 b/\ Γ.ng<=b) (hN: ∀ b,N2 b -> N1 b∨A.heap.size<=b):BO (MS N1 h ρ) A ρ (MS N2 h ρ) B ρ:=
 ⟨fun b AK hm _=>hu.block b AK fun hx=>hm (.inl (hG b hx).1),fun b hb=>hb.elim (fun h=>(hN b h).imp .inl id) (fun h=>.inl (.inr h)),fun _ _ h=>h⟩
def JG (fr:List DV) (ps:List Tmp) (x:List Value):List DV:=(ps.zip x).foldl (fun t q=>t.set q.1 (FA q.2)) fr
theorem cc {M:Nat -> Prop} {w:World} {ρ:List AI}: ∀ (l:List (Tmp×Value)) {fr:List DV} {t:Array Value},B0 M w ρ fr t -> B0 M w ρ (l.foldl (fun t q=>t.set q.1 (FA q.2)) fr) (l.foldl (fun t (q:Tmp×Value)=>t.setIfInBounds q.1 q.2) t)
 | [],_,_,h=>h
 | q::l,_,_,h=>cc l (h.set q.1 (Qk _))
def GE (K:Nat):DV -> Bool
 | .ref k _=>decide (k<K)
 | .msl k _ _ _=>decide (k<K)
 | .mse k _ _ _=>decide (k<K)
 | .mri k _=>decide (k<K)
 | .mp k _ _ _=>decide (k<K)
 | .it k=>decide (k<K)
 | .agg m f=>(List.range m).all fun j=>GE K (f j)
 | .tup m f=>(List.range m).all fun j=>GE K (f j)
 | .fn _ m f=>(List.range m).all fun j=>GE K (f j)
 | _=>true
theorem Oe {α:Type} {l:List α} {K k:Nat} {x:α} (hk:k<K) (h:l[k]? =some x):(l.take K)[k]? =some x:=by rw [List.getElem?_take,zi hk];exact h
theorem AJ.take {M:Nat -> Prop} {w:World} {K:Nat}: ∀ (d:DV) {ρ:List AI} {v:Value},GE K d=true -> AJ M w d ρ v -> AJ M w d (ρ.take K) v:=by
 intro d
 induction d with
 | ref k j=>rintro ρ v hb ⟨p,h,e⟩;exact ⟨p,Oe (zA7 hb) h,e⟩
 | msl k m off n=>rintro ρ v hb ⟨p,cap,h,e⟩;exact ⟨p,cap,Oe (zA7 hb) h,e⟩
 | mp k m i j=>rintro ρ v hb ⟨p,h,e⟩;exact ⟨p,Oe (zA7 hb) h,e⟩
 | it k=>rintro ρ v hb ⟨p,h,e⟩;exact ⟨p,Oe (zA7 hb) h,e⟩
 | agg m f ih=>
  rintro ρ v hb ⟨cs,e,hs,h⟩;exact ⟨cs,e,hs,fun j hj=>let ⟨u,h1,h2⟩:=h j hj;⟨u,h1,ih j (zq.1 hb j (zw.2 hj)) h2⟩⟩
 | tup m f ih=>
  rintro ρ v hb ⟨cs,e,hs,h⟩;exact ⟨cs,e,hs,fun j hj=>let ⟨u,h1,h2⟩:=h j hj;⟨u,h1,ih j (zq.1 hb j (zw.2 hj)) h2⟩⟩
 | fn g m f ih=>
  rintro ρ v hb ⟨cs,e,hs,h⟩;exact ⟨cs,e,hs,fun j hj=>let ⟨u,h1,h2⟩:=h j hj;⟨u,h1,ih j (zq.1 hb j (zw.2 hj)) h2⟩⟩
 | yl l=>rintro ρ v _ h;exact h
 | cst u=>rintro ρ v _ h;exact h
 | mse k m off n=>rintro ρ v hb ⟨p,a,cap,h,e⟩;exact ⟨p,a,cap,Oe (zA7 hb) h,e⟩
 | mri k i=>rintro ρ v hb ⟨p,vs,h,e⟩;exact ⟨p,vs,Oe (zA7 hb) h,e⟩
 | any=>rintro ρ v _ h;trivial
 | nils=>rintro ρ v _ h;exact h
 | int k n=>rintro ρ v _ h;exact h
 | bool b=>rintro ρ v _ h;exact h
 | str s=>rintro ρ v _ h;exact h
 | ints l=>rintro ρ v _ h;exact h
 | bools l=>rintro ρ v _ h;exact h
 | sl m n f=>rintro ρ v _ h;exact h
 | fp m f=>rintro ρ v _ h;exact h
theorem B0.take {M:Nat -> Prop} {w:World} {K:Nat} {ρ:List AI} {fr:List DV} {t:Array Value} (h:B0 M w ρ fr t) (hb:fr.all (GE K)=true):B0 M w (ρ.take K) fr t:=by
 refine ⟨h.1,fun i hi=>AJ.take _ ?_ (h.2 i hi)⟩;have:fr.getD i .any∈fr:=by simp [u8,hi]
 exact zq.1 hb _ this
structure RI (K:Nat) (P:Program) (Γ:Ax) (N:Nat -> Prop) (h0:DH) (ρ0:List AI) (w0:World) (G:Nat -> Prop) (W:World) (h:DH) (ρ:List AI):Prop where
 hr:BP P Γ (fun b=>N b∨G b) h ρ W
 upd:AN (MO h0 ρ0) w0 W
 grow: ∀ b,MO h ρ b -> MO h0 ρ0 b∨w0.heap.size<=b
 g: ∀ b,G b -> Γ.ng<=b/\ (MO h0 ρ0 b∨w0.heap.size<=b)
 kept:EI K ρ0 ρ
theorem RI.stable {K:Nat} {N:Nat -> Prop} {h0:DH} {ρ0:List AI} {w0:World} (GK:Γ.ng<=w0.heap.size) {G G':Nat -> Prop} {A B:World} {h:DH} {ρ:List AI} (R:RI K P Γ N h0 ρ0 w0 G A h ρ) (hu:AN G A B) (hg: ∀ k,G' k -> G k∨A.heap.size<=k) (hb: ∀ k,G' k -> k<B.heap.size):RI K P Γ N h0 ρ0 w0 G' B h ρ:=by
 have hs:w0.heap.size<=A.heap.size:=R.upd.size;refine ⟨R.hr.foreign hu (fun b hx=>⟨.inr hx,(R.g b hx).1⟩) (fun b hx=>?_) (fun b hx=>?_),R.upd.comp hu fun i hi hx=>(R.g i hx).2.resolve_right (by omega),R.grow,fun b hx=>?_,R.kept⟩
 ·rcases hx with hx | hx
  ·exact .inl (.inl hx)
  ·exact (hg b hx).imp .inr id
 ·rcases hx with hx | hx
  ·exact ⟨zu (R.hr.nlt b (.inl hx)).1 hu.size,(R.hr.nlt b (.inl hx)).2⟩
  ·exact ⟨hb b hx,(hg b hx).elim (fun h=>(R.g b h).1) (fun h=>by omega)⟩
 ·rcases hg b hx with hx | hx
  ·exact R.g b hx
  ·exact ⟨by omega,.inr (by omega)⟩
theorem RI.outl {K:Nat} {N:Nat -> Prop} {h0:DH} {ρ0:List AI} {w0:World} {G:Nat -> Prop} {W:World} {h:DH} {ρ:List AI} (R:RI K P Γ N h0 ρ0 w0 G W h ρ):BO (MS N h0 ρ0) w0 (ρ0.take K) (MS (fun b=>N b∨G b) h ρ) W ρ:=
 ⟨fun b AK hm _=>R.upd.block b AK fun hx=>hm (.inr hx),fun b hb=>by
  rcases hb with (hb | hb) | hb
  ·exact .inl (.inl hb)
  ·exact (R.g b hb).2.imp .inr id
  ·exact (R.grow b hb).imp .inr id,fun k p hk=>by
  rw [List.getElem?_take] at hk
  by_cases e:k<K
  ·rw [zi e] at hk;exact R.kept k p e hk
  ·rw [zr e] at hk;cases hk⟩
def Jw:Exit -> Option Code
 | .ret=>some .ret
 | .exit id=>some (.exit id)
 | _=>none
def ac (L:Nat) (J:DH -> Prop) (Jx:Exit -> DH -> Prop) (e:Exit) (S:St):Prop:=∃ S3,BI L S S3/\ ((e= .normal/\ J S3.h)∨((Jw e).isSome=true/\ Jx e S3.h))
def kb (P:Program) (Γ:Ax) (fr:List DV) (ps:List Tmp) (assign body:Code) (L:Nat) (J:Nat -> DH -> Prop) (Jx:Exit -> DH -> Prop) (encs:List (Array Value)):Prop:=
 ∀ (l B:Nat) (Y:BU P Γ L) (i:Nat) (x:Array Value) (h:DH),encs[i]? =some x -> J i h ->
  Tr P Γ (Fence.wide.inRound l) (some B) L Y assign ⟨JG fr ps x.toList,h⟩ (Pd (fun S' Y'=>Y'=Y/\ ∀ Y2:BU P Γ L,Tr P Γ (Fence.wide.inRound l) (some B) L Y2 body S' (stay Y2 (ac L (J (i+1)) Jx))) (fun _ _ _=>False))
theorem dh {N:Nat -> Prop} {S:St} {ρ:List AI} {a:Act} {w:World} (R:AY P Γ N S ρ a w) {ps:Array Tmp} {assign body:Code} {encs:List (Array Value)} {J:Nat -> DH -> Prop} {Jx:Exit -> DH -> Prop} {Rd:Nat -> Prop} {l KK:Nat} (Df:S.fr.all (GE KK)=true)
 (I0: ∀ b,Rd b -> ¬ MS N S.h ρ b/\ b<w.heap.size) (DU:kb P Γ S.fr ps.toList assign body KK J Jx encs)
 (G:Nat -> Prop) (i:Nat) (x:Array Value) (W:World) (hx:encs[i]? =some x) (hI: ∃ h ρ',J i h/\ RI KK P Γ N S.h ρ w G W h ρ') (hl: ∃ r,W.heap[l]? =some (.loop r)) (Ee:G l):
 assign.wpIn (Fence.wide.inRound l) 0 P (Exit.then (fun a₁ W₁=>∃ K:(Nat -> Prop) -> World -> Prop,Ej K/\ AN (fun k=>¬ (G k∨Rd k)) W W₁/\ K G W₁/\ ∀ W₂,K G W₂ -> (∃ r,W₂.heap[l]? =some (.loop r)) ->
  body.wpIn (Fence.wide.inRound l) 0 P (TZ (fun k=>G k∨Rd k) (fun W'=>∃ h ρ',J (i+1) h/\ RI KK P Γ N S.h ρ w G W' h ρ') (fun c W'=>∃ e,Jw e=some c/\ ∃ h ρ',Jx e h/\ RI KK P Γ N S.h ρ w G W' h ρ') W₂) a₁ W₂) (fun _ _ _=>False)) { tmps:=(ps.zip x).foldl (fun t (p,v)=>t.setIfInBounds p v) a.tmps,defers:=[] } W:=by
 obtain ⟨h,ρ1,hJ,hR⟩:=hI;have GK:Γ.ng<=w.heap.size:=Γ.lo _ R.hr.gi
 have VQ:B0 (MS (fun b=>N b∨G b) h ρ1) W ρ1 (JG S.fr ps.toList x.toList) ((ps.zip x).foldl (fun t (p,v)=>t.setIfInBounds p v) a.tmps):=by
  have:=cc (ps.zip x).toList ((R.fr.take Df).out hR.outl);rw [Array.toList_zip] at this;rw [←Array.foldl_toList,Array.toList_zip];exact this
 have off: ∀ {G:Nat -> Prop} {W:World} {h:DH} {ρ1:List AI},RI KK P Γ N S.h ρ w G W h ρ1 -> ∀ b,MO h ρ1 b -> ¬ (G b∨Rd b):=by
  rintro G W h ρ1 hR b hm (hg | hd)
  ·obtain ⟨k,o,p,q1,q2,q3⟩:=hm;exact (hR.hr.cel k o p b q1 q2 q3).2.1 (.inr hg)
  ·rcases hR.grow b hm with hm | hm
   ·exact (I0 b hd).1 (.inr hm)
   ·have:=(I0 b hd).2;omega
 have step: ∀ {G:Nat -> Prop} {W W':World} {h h':DH} {ρ1 ρ2:List AI},RI KK P Γ N S.h ρ w G W h ρ1 -> BP P Γ (fun b=>N b∨G b) h' ρ2 W' -> A9 h ρ1 W h' ρ2 W' -> EI KK ρ1 ρ2 -> RI KK P Γ N S.h ρ w G W' h' ρ2:=by
  intro G W W' h h' ρ1 ρ2 hR Cw st hk;have hs:=hR.upd.size;exact ⟨Cw,hR.upd.comp st.upd fun b hb hm=>(hR.grow b hm).resolve_right (by omega),fun b hb=>(st.grow b hb).elim (hR.grow b) fun h=>.inr (by omega),hR.g,hR.kept.trans hk⟩
 have bd:Bd (Fence.wide.inRound l) (some W.heap.size) W:=⟨fun b e=>by cases e;exact zAF _,fun l' e=>by cases e;exact hl⟩;refine zBj (DU l W.heap.size (Pi P Γ KK (fun b=>N b∨G b) h ρ1 W) i x h hx hJ _ ρ1 _ W ⟨hR.hr,VQ⟩ ⟨rfl,A9.refl _ _ _,EI.refl _ _⟩ trivial bd) ?_;rintro e a1 W1 ⟨S',ρ2,N2,Y2,h1,h2,h3,h4,_⟩;cases e with
 | normal=>
  obtain ⟨rfl,h1⟩:=h1;obtain ⟨rfl,h3,h5⟩:=h3;refine ⟨fun G' W'=>RI KK P Γ N S.h ρ w G' W' S'.h ρ2/\ B0 (MS (fun b=>N b∨G' b) S'.h ρ2) W' ρ2 S'.fr a1.tmps/\ EH W.heap.size a1.defers W'/\ W1.heap.size<=W'.heap.size/\ (∀ b,G' b -> b<W.heap.size∨W1.heap.size<=b)/\ (∀ d∈a1.defers,∀ D,d.target= .collected D -> D<W1.heap.size),?_,h3.upd.mono fun b _ hm=>off hR b hm,⟨step hR h2.hr h3 h5,h2.fr,h4,zAF _,fun b hg=>.inl (hR.hr.nlt b (.inr hg)).1,fun d hd D ht=>EH.lt h4 hd ht⟩,?_⟩
  ·rintro G1 G2 A C ⟨q1,q2,q3,q4,q5,q6⟩ hu hg hb;have wN:=q1.stable GK hu hg hb;refine ⟨wN,q2.out (BO.foreign (Γ:=Γ) hu (fun b hx=>⟨.inr hx,(q1.g b hx).1⟩) fun b hx=>?_),?_,zt q4 hu.size,fun b hx=>(hg b hx).elim (q5 b) (fun h=>.inr (by omega)),q6⟩
   ·rcases hx with hx | hx
    ·exact .inl (.inl hx)
    ·exact (hg b hx).imp .inr id
   ·have go: ∀ {ds:List Deferred},EH W.heap.size ds A -> (∀ d∈ds,∀ D,d.target= .collected D -> D<W1.heap.size) -> EH W.heap.size ds C:=by
     intro ds
     induction ds with
     | nil=>intros;trivial
     | cons d ds ih=>
      rintro ⟨D,r1,r2,r3,r4,r5⟩ AK;have hD:D<W1.heap.size:=AK d (by simp) D (by rw [r1]);refine ⟨D,r1,r2,(hu.block D (zj.1 r3).1 fun hx=>?_).trans r3,r4,ih r5 fun d' Kz=>AK d' (by simp [Kz])⟩;rcases q5 D hx with h | h <;> omega
    exact go q3 q6
  ·rintro W2 ⟨q1,q2,q3,q4,q5,q6⟩ CY;have yo:Bd (Fence.wide.inRound l) (some W.heap.size) W2:=⟨fun b e=>by cases e;exact zt h3.upd.size q4,fun l' e=>by cases e;exact CY⟩;refine zBj (h1 (Pi P Γ KK (fun b=>N b∨G b) S'.h ρ2 W2) _ ρ2 a1 W2 ⟨q1.hr,q2⟩ ⟨rfl,A9.refl _ _ _,EI.refl _ _⟩ q3 yo) ?_;rintro e a3 W3 ⟨S3,ρ3,N3,Y3,r1,r2,r3,r4,_⟩
   have out: ∀ e,(Pi P Γ KK (fun b=>N b∨G b) S'.h ρ2 W2).I N3 S3.h ρ3 W3 -> ac KK (J (i+1)) Jx e S3 -> AN (fun k=>¬ (G k∨Rd k)) W2 W3/\ ((e= .normal/\ ∃ h ρ',J (i+1) h/\ RI KK P Γ N S.h ρ w G W3 h ρ')∨((Jw e).isSome=true/\ ∃ h ρ',Jx e h/\ RI KK P Γ N S.h ρ w G W3 h ρ')):=by
    rintro e r0 ⟨S4,Bx,wV⟩;obtain ⟨rfl,r3,r5⟩:=r0;obtain ⟨ρ4,R4,s4,k4⟩:=Bx P Γ _ ρ3 a3 W3 r2;have gU:=step q1 R4.hr (r3.trans s4) (r5.trans k4);exact ⟨r3.upd.mono fun b _ hm=>off q1 b hm,wV.imp (fun ⟨x,y⟩=>⟨x,S4.h,ρ4,y,gU⟩) (fun ⟨x,y⟩=>⟨x,S4.h,ρ4,y,gU⟩)⟩
   cases e with
   | normal=>
    obtain ⟨rfl,r1⟩:=r1;obtain ⟨o1,o2⟩:=out _ r3 r1;rcases o2 with ⟨_,o2⟩ | ⟨o2,_⟩
    ·exact ⟨o1,o2⟩
    ·cases o2
   | ret=>
    obtain ⟨rfl,r1⟩:=r1;obtain ⟨o1,o2⟩:=out _ r3 r1;rcases o2 with ⟨o2,_⟩ | ⟨_,o2⟩
    ·cases o2
    ·exact ⟨o1,.ret,rfl,o2⟩
   | exit id=>
    obtain ⟨rfl,r1⟩:=r1;obtain ⟨o1,o2⟩:=out _ r3 r1;rcases o2 with ⟨o2,_⟩ | ⟨_,o2⟩
    ·cases o2
    ·exact ⟨o1,.exit id,rfl,o2⟩
   | goto t=>
    obtain ⟨rfl,r1⟩:=r1;obtain ⟨o1,o2⟩:=out _ r3 r1;rcases o2 with ⟨o2,_⟩ | ⟨o2,_⟩ <;> cases o2
   | panic c=>exact r1.elim
   | outgrown=>exact r1.elim
 | ret=>exact h1.elim
 | exit id=>exact h1.elim
 | goto t=>exact h1.elim
 | panic c=>exact h1.elim
 | outgrown=>exact h1.elim
theorem Tr.range {F:Fence} (ID:F=Fence.wide∨∃ l,F=Fence.wide.inRound l) {B L:Nat} {Y:BU P Γ L} {S:St} {g:Operand} {ps:Array Tmp} {assign body:Code} {Q:QY P Γ L} {k:Nat} {encs:List (Array Value)} (J:Nat -> DH -> Prop) (Jx:Exit -> DH -> Prop)
 (hg:AW S.fr g= .it k) (hk:S.h[k]? =some (some (.iter encs))) (Dn: ∀ x∈encs,x.size=ps.size) {KK:Nat} (hL:L<=KK) (Df:S.fr.all (GE KK)=true) (h0:J 0 (S.h.set k none))
 (DU:kb P Γ S.fr ps.toList assign body KK J Jx encs) (EB: ∀ h,J encs.length h -> Q .normal ⟨S.fr,h⟩ Y) (OJ: ∀ e h,(Jw e).isSome=true -> Jx e h -> Q e ⟨S.fr,h⟩ Y):Tr P Γ F (some B) L Y (.rangeFunc g ps assign body) S Q:=fun N ρ a w R y m b=>by
 have hx:=BZ R g;rw [hg] at hx;obtain ⟨p,hp,hv⟩:=hx;obtain ⟨p',Av,gf,lb,Rd,⟨e1,e2⟩,q2,q3,q4⟩:=R.hr.obj k _ hk;have ep:p'=p:=zo (Av.symm.trans hp);subst ep;have iG:a.eval g= .func (.func gf) #[] lb:=hv.trans e1;have GK:Γ.ng<=w.heap.size:=Γ.lo _ R.hr.gi;have ib: ∀ b,p'.foot b -> MO S.h ρ b:=fun b hb=>⟨k,_,p',hk,hp,hb⟩
 have ic: ∃ h ρ',J 0 h/\ RI KK P Γ N S.h ρ w p'.foot w h ρ':=by
  refine ⟨S.h.set k none,ρ,h0,?_,AN.refl _ _,fun b hb=>.inl (MO.kill hb),fun b hb=>⟨(R.hr.cel k _ p' b hk hp hb).1,.inl (ib b hb)⟩,EI.refl _ _⟩;have H1:BP P Γ N (S.h.set k none) ρ w:=R.hr.kill k
  have Kr: ∀ b,MS (fun b=>N b∨p'.foot b) (S.h.set k none) ρ b -> MS N S.h ρ b:=fun b hb=>by
   rcases hb with (hb | hb) | hb
   ·exact .inl hb
   ·exact .inr (ib b hb)
   ·exact .inr (MO.kill hb)
  refine ⟨H1.len,fun i o hi=>?_,fun i o p2 b g1 g2 g3=>?_,H1.dis,fun b hb=>hb.elim (R.hr.nlt b) fun h=>⟨q4 b h,(R.hr.cel k _ p' b hk hp h).1⟩,R.hr.gi⟩
  ·obtain ⟨AQ,A3⟩:=Fa hi;obtain ⟨p2,Mi,hr⟩:=R.hr.obj i o A3;exact ⟨p2,Mi,hr.out (DB Kr ρ) (S:=fun _=>False) (AN.refl _ _) (fun _ h=>h.elim) fun _ _ _ h=>h⟩
  ·obtain ⟨AQ,A3⟩:=Fa g1;obtain ⟨c1,c2,c3⟩:=R.hr.cel i o p2 b A3 g2 g3;exact ⟨c1,fun hb=>hb.elim c2 fun hb=>R.hr.dis i k o _ p2 p' b AQ A3 hk g2 hp g3 hb,c3⟩
 have D8: ∀ i,Ej (fun G W=>∃ h ρ',J i h/\ RI KK P Γ N S.h ρ w G W h ρ'):=fun i G G' A C ⟨h,ρ',h1,h2⟩ hu Re hb=>⟨h,ρ',h1,h2.stable GK hu Re hb⟩
 have fin: ∀ {G:Nat -> Prop} {W:World} {h:DH} {ρ':List AI},RI KK P Γ N S.h ρ w G W h ρ' -> BP P Γ N h ρ' W:=fun {G W h ρ'} hR=>
  hR.hr.foreign (G:=fun _=>False) (AN.refl _ _) (fun _ h=>h.elim) (fun b hb=>.inl (.inl hb)) fun b hb=>hR.hr.nlt b (.inl hb)
 have Oj: ∀ {G:Nat -> Prop} {W:World} {h:DH} {ρ':List AI},RI KK P Γ N S.h ρ w G W h ρ' -> B0 (MS N h ρ') W ρ' S.fr a.tmps:=fun {G W h ρ'} hR=>
  ((R.fr.take Df).out hR.outl).out (DB (fun b hb=>hb.imp .inl id) ρ')
 have FJ: ∀ {G:Nat -> Prop} {W:World} {h:DH} {ρ':List AI},RI KK P Γ N S.h ρ w G W h ρ' -> A9 S.h ρ w h ρ' W:=fun hR=>⟨hR.upd,hR.grow⟩
 have gR: ∀ c,Ej (fun G W=>∃ e,Jw e=some c/\ ∃ h ρ',Jx e h/\ RI KK P Γ N S.h ρ w G W h ρ'):=fun c G G' A C ⟨e,he,h,ρ',h1,h2⟩ hu Re hb=>⟨e,he,h,ρ',h1,h2.stable GK hu Re hb⟩
 have kp: ∀ {G:Nat -> Prop} {W:World} {h:DH} {ρ':List AI},RI KK P Γ N S.h ρ w G W h ρ' -> EI L ρ ρ':=fun hR k p hk hp=>hR.kept k p (zu hk hL) hp
 rcases ID with rfl | ⟨l0,rfl⟩
 ·have mk: ∀ {D:Nat} {G:Nat -> Prop} {W:World} {h:DH} {ρ':List AI},RI KK P Γ N S.h ρ w G W h ρ' -> W.heap[D]? =some (.deferred (some [])) -> w.heap.size<=D -> EH B ({ target:=.collected D,args:=#[] }::a.defers) W:=fun {D G W h ρ'} hR hD OH=>
   ⟨D,rfl,zt (b.le _ rfl) OH,hD,fun d' Kz ht=>by have:=EH.lt m Kz ht;omega,Qv R.hr (FJ hR) m⟩
  refine kz iG e2 q2 (fun b hb=>q4 b hb) (fun b hb=>(q3 b hb).2) Dn _ _ D8 gR ic (fun l G i x W hx hI hl Ee=>dh R Df q3 DU G i x W hx hI hl Ee) ?_ ?_
  ·rintro D G W ⟨h,ρ',h1,hR⟩ hD wX OH;exact ⟨⟨S.fr,h⟩,ρ',N,Y,EB h h1,⟨fin hR,Oj hR⟩,Y.st y R.hr (fin hR) (FJ hR) (kp hR),mk hR hD OH,b.step R.hr (FJ hR)⟩
  ·rintro D c G W ⟨e,he,h,ρ',h1,hR⟩ hD wX OH;have hq:=OJ e h (by rw [he];rfl) h1;cases e with
   | ret=>cases he;exact wpIn_ret ⟨⟨S.fr,h⟩,ρ',N,Y,hq,⟨fin hR,Oj hR⟩,Y.st y R.hr (fin hR) (FJ hR) (kp hR),mk hR hD OH,b.step R.hr (FJ hR)⟩
   | exit id=>cases he;exact wpIn_exit ⟨⟨S.fr,h⟩,ρ',N,Y,hq,⟨fin hR,Oj hR⟩,Y.st y R.hr (fin hR) (FJ hR) (kp hR),mk hR hD OH,b.step R.hr (FJ hR)⟩
   | normal=>cases he
   | goto t=>cases he
   | panic c=>cases he
   | outgrown=>cases he
 ·refine lA iG e2 (b.rd l0 rfl) q2 (fun b hb=>q4 b hb) (fun b hb=>(q3 b hb).2) Dn _ _ D8 gR ic (fun l G i x W hx hI hl Ee=>dh R Df q3 DU G i x W hx hI hl Ee) ?_ ?_
  ·rintro G W ⟨h,ρ',h1,hR⟩;exact ⟨⟨S.fr,h⟩,ρ',N,Y,EB h h1,⟨fin hR,Oj hR⟩,Y.st y R.hr (fin hR) (FJ hR) (kp hR),Qv R.hr (FJ hR) m,b.step R.hr (FJ hR)⟩
  ·rintro c G W ⟨e,he,h,ρ',h1,hR⟩;have hq:=OJ e h (by rw [he];rfl) h1;cases e with
   | ret=>cases he;exact wpIn_ret ⟨⟨S.fr,h⟩,ρ',N,Y,hq,⟨fin hR,Oj hR⟩,Y.st y R.hr (fin hR) (FJ hR) (kp hR),Qv R.hr (FJ hR) m,b.step R.hr (FJ hR)⟩
   | exit id=>cases he;exact wpIn_exit ⟨⟨S.fr,h⟩,ρ',N,Y,hq,⟨fin hR,Oj hR⟩,Y.st y R.hr (fin hR) (FJ hR) (kp hR),Qv R.hr (FJ hR) m,b.step R.hr (FJ hR)⟩
   | normal=>cases he
   | goto t=>cases he
   | panic c=>cases he
   | outgrown=>cases he
def EV {α σ:Type} (f:α -> σ -> Option (σ×Nat)):List α -> σ -> Option (σ×Nat)
 | [],s=>some (s,0)
 | x::l,s=>(f x s).bind fun r=>bif r.2==0 then EV f l r.1 else some r
def By {α σ:Type} (f:α -> σ -> Option σ):List α -> σ -> Option σ
 | [],s=>some s
 | x::l,s=>(f x s).bind (By f l)
theorem i7 {α σ:Type} (f:α -> σ -> Option σ): ∀ (l:List α) (s:σ),EV (fun x s=>(f x s).map fun s'=>(s',0)) l s=(By f l s).map fun s'=>(s',0)
 | [],s=>rfl
 | x::l,s=>by
  simp only [EV,By];cases f x s with
  | none=>rfl
  | some s'=>exact i7 f l s'
def DL (L:Nat) (ex:List Exit) (c:Nat) (h':DH) (e:Exit) (S:St):Prop:=(Exit.normal::ex)[c]? =some e/\ ∃ S3,BI L S S3/\ S3.h=h'
def F7 (P:Program) (Γ:Ax) (F:Fence) (B:Option Nat) (L:Nat) (N:BU P Γ L) (Q:Exit -> St -> Prop) (assign body:Code) (S:St):Prop:=
 Tr P Γ F B L N assign S (Pd (fun S' Y'=>Y'=N/\ ∀ N2:BU P Γ L,BN P Γ F B L N2 Q [.code body] S') (fun _ _ _=>False))
theorem F7.go {F:Fence} {B:Option Nat} {L:Nat} {N:BU P Γ L} {Q:Exit -> St -> Prop} (hF:Du F P) (hm:P.follows .mixedOrders=true) {assign body:Code} {S:St} (Ar:BV) (n:Nat) (o:Bs) (live σ:List Nat) (fr:List DV) (h':DH) (vs:List Prop)
 (h:(Bp P Γ Ar n [.code assign] S o).map (Qh live σ L)=some (.at [],fr,h',vs,[],[],true)) (hv:Bb vs) (hk: ∀ N2:BU P Γ L,BN P Γ F B L N2 Q [.code body] ⟨fr,h'⟩):F7 P Γ F B L N Q assign body S:=by
 obtain ⟨S',_,h1,hs⟩:=qJ h;have T:=E0 (F:=F) (B:=B) (L:=L) (Y:=N) (Q:=fun e S2 Y2=>e= .normal/\ Y2=N/\ ∀ N2:BU P Γ L,BN P Γ F B L N2 Q [.code body] S2) hF hm n [.code assign] S o _ _ _ _ h1 hv ⟨rfl,rfl,fun N2=>BN.le hs rfl (hk N2)⟩;refine Tr.mono (show Tr P Γ F B L N assign S _ from T) fun e S2 Y2 hq=>?_
 cases e with
 | normal=>exact hq.2
 | ret=>exact absurd hq.1 (by simp)
 | exit id=>exact absurd hq.1 (by simp)
 | goto t=>exact absurd hq.1 (by simp)
 | panic c=>exact absurd hq.1 (by simp)
 | outgrown=>exact absurd hq.1 (by simp)
theorem BN.rangeFold {F:Fence} (ID:F=Fence.wide∨∃ l,F=Fence.wide.inRound l) {B L:Nat} {Y:BU P Γ L} {Q:QY P Γ L} {S:St} {g:Operand} {ps:Array Tmp} {assign body:Code} {k:List KI} {kk:Nat} {α σ:Type} (ex:List Exit) (Iz:(ex.all fun e=>(Jw e).isSome)=true) (enc:α -> Array Value) (l:List α) (H:σ -> DH) (f:α -> σ -> Option (σ×Nat)) {s0:σ} {rE:σ×Nat} (hf:EV f l s0=some rE)
 (hg:AW S.fr g= .it kk) (hk:S.h[kk]? =some (some (.iter (l.map enc)))) (Dn: ∀ x,(enc x).size=ps.size) {K:Nat} (hL:L<=K) (Df:S.fr.all (GE K)=true) (h0:S.h.set kk none=H s0)
 (DU: ∀ (l B:Nat) (N:BU P Γ K) (x:α) (s:σ) (r:σ×Nat),f x s=some r -> F7 P Γ (Fence.wide.inRound l) (some B) K N (DL K ex r.2 (H r.1)) assign body ⟨JG S.fr ps.toList (enc x).toList,H s⟩)
 (EB: ∀ e,(Exit.normal::ex)[rE.2]? =some e -> DX P Γ F (some B) L Q k e ⟨S.fr,H rE.1⟩ Y):At P Γ F (some B) L Y Q (.code (.rangeFunc g ps assign body)::k) S:=by
 refine Tr.range (Q:=DX P Γ F (some B) L Q k) (KK:=K) ID (fun i h=>∃ s,EV f (l.drop i) s=some rE/\ h=H s) (fun e h=>(Exit.normal::ex)[rE.2]? =some e/\ h=H rE.1) hg hk (fun x hx=>?_) hL Df ⟨s0,hf,h0⟩ ?_ ?_ ?_
 ·obtain ⟨y,_,rfl⟩:=zAt.1 hx;exact Dn y
 ·rintro l' B' N' i x h hx ⟨s,hs,rfl⟩;rw [z6] at hx;cases hy:l[i]? with
  | none=>rw [hy] at hx;cases hx
  | some y=>
   rw [hy] at hx;cases hx;have AK:=(zp.1 hy).1
   have hd:l.drop i=y::l.drop (i+1):=by
    rw [zAD AK]
    congr 1
    exact (zp.1 hy).2
   rw [hd] at hs;obtain ⟨r,h1,h2⟩:=j5 hs;have T:=DU l' B' N' y s r h1
   have fin: ∀ {e:Exit} {S2:St},DL K ex r.2 (H r.1) e S2 -> ac K (fun h=>∃ s,EV f (l.drop (i+1)) s=some rE/\ h=H s) (fun e h=>(Exit.normal::ex)[rE.2]? =some e/\ h=H rE.1) e S2:=by
    rintro e S2 ⟨r1,S3,r2,r3⟩;refine ⟨S3,r2,?_⟩;cases hc:r.2 with
    | zero=>
     rw [hc] at r1 h2;cases r1;exact .inl ⟨rfl,r.1,h2,r3⟩
    | succ c=>
     rw [hc] at r1 h2;cases h2;have:e∈ex:=zAX (i:=c) r1;exact .inr ⟨zq.1 Iz e this,by rw [hc];exact r1,r3⟩
   refine Tr.mono T fun e S2 Y2 hq=>?_
   cases e with
   | normal=>exact ⟨hq.1,fun N2=>Tr.mono (show Tr P Γ (Fence.wide.inRound l') (some B') K N2 body S2 (stay N2 (DL K ex r.2 (H r.1))) from hq.2 N2) fun e S3 Y3 h3=>⟨h3.1,fin h3.2⟩⟩
   | ret=>exact hq.elim
   | exit id=>exact hq.elim
   | goto t=>exact hq.elim
   | panic c=>exact hq.elim
   | outgrown=>exact hq.elim
 ·rintro h ⟨s,hs,rfl⟩;rw [zAl,List.drop_length] at hs;cases hs;exact EB .normal rfl
 ·rintro e h he ⟨h1,rfl⟩;exact EB e h1
theorem Oq {F:Fence} {B:Option Nat} {L:Nat} {Y:BU P Γ L} {Q:QY P Γ L} {S:St} {id:Nat} (h:Q (.exit id) S Y): ∀ (k:List KI),Hv id k=none -> DX P Γ F B L Q k (.exit id) S Y
 | [],_=>h
 | .blk i::k,hp=>by
  unfold Hv at hp;split at hp
  ·cases hp
  ·rename_i e
   show (if id=i then _ else _)
   rw [zr e];exact Oq h k hp
 | .code c::k,hp=>Oq (k:=k) h hp
 | .lend J::k,hp=>Oq (k:=k) h hp
 | .scp::k,hp=>Oq (k:=k) h hp
 | .loopN m b::k,hp=>Oq (k:=k) h hp
end
def JJ (t:Nat):Code -> Option (Array Tmp×Code×Code)
 | .rangeFunc (.tmp t') ps a b=>if t'=t then some (ps,a,b) else JJ t b
 | .seq a b=>match JJ t a with
  | some r=>some r
  | none=>JJ t b
 | .cond _ a b=>match JJ t a with
  | some r=>some r
  | none=>JJ t b
 | .block _ c=>JJ t c
 | .loop c=>JJ t c
 | .scope c=>JJ t c
 | _=>none
def dW (f:Func) (t:Nat):Array Tmp×Code×Code:=match f.body with
 | some c=>(JJ t c).getD (#[],.skip,.skip)
 | none=>(#[],.skip,.skip)
def Tf (f:Func) (t:Nat):Code:=(dW f t).2.2
def oY (f:Func) (t:Nat):Code:=(dW f t).2.1
def Aa (f:Func):Code:=f.body.getD .skip
def d6 (id:Nat) (k:List KI):List KI:=(Hv id k).getD []
theorem DX.exitTo {P:Program} {Γ:Ax} {F:Fence} {B:Option Nat} {L:Nat} {Y:BU P Γ L} {Q:QY P Γ L} {id:Nat} {k:List KI} {S:St} (h:(Hv id k).isSome=true) (hk:At P Γ F B L Y Q (d6 id k) S):DX P Γ F B L Q k (.exit id) S Y:=by
 unfold d6 at hk;cases hp:Hv id k with
 | none=>rw [hp] at h;cases h
 | some k'=>rw [hp] at hk;exact Lw hp hk
def Lq:List KI -> Option (Operand×Array Tmp×Code×Code×List KI)
 | .code (.rangeFunc g ps a b)::k=>some (g,ps,a,b,k)
 | _=>none
theorem BN.rangeAt {P:Program} {Γ:Ax} {F:Fence} (ID:F=Fence.wide∨∃ l,F=Fence.wide.inRound l) {B L:Nat} {Y:BU P Γ L} {Q:QY P Γ L} {fr:List DV} {h:DH} {K:List KI} (ex:List Exit) (Iz:(ex.all fun e=>(Jw e).isSome)=true) (g:Operand) (ps:Array Tmp) (a b:Code) (k2:List KI) {kk:Nat} {α σ:Type} (enc:α -> Array Value) (l:List α) (H:σ -> DH) (FR:α -> List DV) (f:α -> σ -> Option (σ×Nat)) {s0:σ} {rE:σ×Nat} (hf:EV f l s0=some rE)
 (hK:Lq K=some (g,ps,a,b,k2)) (hg:AW fr g= .it kk) (hk:h[kk]? =some (some (.iter (l.map enc)))) (Dn: ∀ x,(enc x).size=ps.size) (L':Nat) (hL:Nat.ble L L'=true) (F2:fr.all (GE L')=true) (h0:h.set kk none=H s0) (Df:(fun x=>JG fr ps.toList (enc x).toList)=FR)
 (DU: ∀ (l B:Nat) (N:BU P Γ L') (x:α) (s:σ) (r:σ×Nat),f x s=some r -> F7 P Γ (Fence.wide.inRound l) (some B) L' N (DL L' ex r.2 (H r.1)) a b ⟨FR x,H s⟩)
 (EB: ∀ e,(Exit.normal::ex)[rE.2]? =some e -> DX P Γ F (some B) L Q k2 e ⟨fr,H rE.1⟩ Y):At P Γ F (some B) L Y Q K ⟨fr,h⟩:=by
 unfold Lq at hK;split at hK
 ·cases hK;subst Df;exact BN.rangeFold ID ex Iz enc l H f hf hg hk Dn (zAT hL) F2 h0 DU EB
 ·cases hK
theorem BN.rangeAt0 {P:Program} {Γ:Ax} {F:Fence} (ID:F=Fence.wide∨∃ l,F=Fence.wide.inRound l) {B L:Nat} {Y:BU P Γ L} {Q:QY P Γ L} {fr:List DV} {h:DH} {K:List KI} (g:Operand) (ps:Array Tmp) (a b:Code) (k2:List KI) {kk:Nat} {α σ:Type} (enc:α -> Array Value) (l:List α) (H:σ -> DH) (FR:α -> List DV) (f:α -> σ -> Option σ) {s0 sE:σ} (hf:By f l s0=some sE)
 (hK:Lq K=some (g,ps,a,b,k2)) (hg:AW fr g= .it kk) (hk:h[kk]? =some (some (.iter (l.map enc)))) (Dn: ∀ x,(enc x).size=ps.size) (L':Nat) (hL:Nat.ble L L'=true) (F2:fr.all (GE L')=true) (h0:h.set kk none=H s0) (Df:(fun x=>JG fr ps.toList (enc x).toList)=FR)
 (DU: ∀ (l B:Nat) (N:BU P Γ L') (x:α) (s r:σ),f x s=some r -> F7 P Γ (Fence.wide.inRound l) (some B) L' N (DL L' [] 0 (H r)) a b ⟨FR x,H s⟩)
 (EB:At P Γ F (some B) L Y Q k2 ⟨fr,H sE⟩):At P Γ F (some B) L Y Q K ⟨fr,h⟩:=by
 refine BN.rangeAt ID [] rfl g ps a b k2 enc l H FR (fun x s=>(f x s).map fun s'=>(s',0)) (rE:=(sE,0)) (by rw [i7,hf];rfl) hK hg hk Dn L' hL F2 h0 Df (fun l' B' N' x s r hr=>?_) (fun e he=>?_)
 ·cases hx:f x s with
  | none=>rw [hx] at hr;cases hr
  | some s'=>
   rw [hx] at hr;cases hr;exact DU l' B' N' x s s' hx
 ·cases he;exact EB
def K7 (t:Nat):List Nat -> Code -> List KI -> Option (List KI)
 | ms,.seq a b,k=>match K7 t ms a (.code b::k) with
  | some r=>some r
  | none=>K7 t ms b k
 | ms,.cond _ a b,k=>match K7 t ms a k with
  | some r=>some r
  | none=>K7 t ms b k
 | ms,.block i c,k=>K7 t ms c (.blk i::k)
 | ms,.scope c,k=>K7 t ms c (.scp::k)
 | m::ms,.loop b,k=>K7 t ms b (.loopN m b::k)
 | _,.rangeFunc (.tmp t') ps a b,k=>if t'=t then some (.code (.rangeFunc (.tmp t') ps a b)::k) else none
 | _,_,_=>none
def Gn (c:Code) (t:Nat) (ms:List Nat):List KI:=(K7 t ms c []).getD []
def Ap (c:Code) (id:Nat) (ms:List Nat):List KI:=(K8 id ms c []).getD []
def Gp (c:Code) (id:Nat) (ms:List Nat):List KI:=(K9 id ms c []).getD []
end Go.Proofs.YtgkhhfnhacibcaaGreatDoor
namespace Go.Proofs.YtgkhhfnhacibcaaGreatDoor
open Go.RowKit
abbrev L1 (l:List DV):Nat -> DV:=fun j=>l.getD j .any
abbrev Aw {α:Type} [Inhabited α] (c:α -> List DV) (l:List α):Nat -> Nat -> DV:=fun i j=>(c (l.getD i default)).getD j .any
def AG (c:AB):List DV:=[.int .i64 c.kind,.ints c.cells,.int .i64 c.set,.int .i64 c.other,.int .i64 c.lo,.int .i64 c.hi,.ints c.runs,.int .i64 c.rule,.int .i64 c.spot]
def BF (x:List Int):List DV:=[.ints x]
def Vy (x:List Bool):List DV:=[.bools x]
def AD (q:AA):List DV:=[.int .i64 q.cells,.int .i64 q.symbols,.ints q.values,.sl 1 q.nbrs.length (Aw BF q.nbrs),.sl 9 q.cons.length (Aw AG q.cons)]
end Go.Proofs.YtgkhhfnhacibcaaGreatDoor
namespace Go.Proofs.YtgkhhfnhacibcaaGreatDoor
abbrev zAj:=@List.drop_eq_nil_of_le
end Go.Proofs.YtgkhhfnhacibcaaGreatDoor
namespace Go.Proofs.YtgkhhfnhacibcaaGreatDoor
open Go.RowKit
structure Dt (P:Program) (Γ:Ax) where
 l:Nat
 Rd:Nat -> Prop
 encs:List (Array Value)
 J:Nat -> (Nat -> Prop) -> World -> Prop
 Jx:(Nat -> Prop) -> World -> Prop
 hJ: ∀ i,Ej (J i)
 hJx:Ej Jx
 lo: ∀ b,b<Γ.ng -> Rd b
 hy: ∀ i args G W1,encs[i]? =some args -> J i G W1 -> YieldAt Fence.wide 0 P l args W1 fun e W'=>
  AN (fun k=>¬ (G k∨Rd k)) W1 W'/\ ((e= .returned (.bool true)/\ J (i+1) G W')∨(e= .returned (.bool false)/\ Jx G W'))
def f7 (P:Program) (Γ:Ax) (L:Nat) (Rd:Nat -> Prop) (J:(Nat -> Prop) -> World -> Prop) (hJ:Ej J):BU P Γ L where
 I:=fun N h ρ w=>∃ G,J G w/\ (∀ b,G b -> b<w.heap.size)/\ (∀ b,MO h ρ b -> G b)/\ (∀ b,N b↔(b<w.heap.size/\ Γ.ng<=b/\ ¬ G b/\ ¬ Rd b))
 st:=by
  rintro N h ρ w h' ρ' w' ⟨G,h1,h2,h3,h4⟩ H H' st _;have hs:=st.upd.size;refine ⟨fun b=>G b∨(w.heap.size<=b/\ b<w'.heap.size),hJ G _ w w' h1 (st.upd.mono fun b _ hb=>h3 b hb) (fun k hk=>hk.imp id fun h=>h.1) (fun k hk=>hk.elim (fun h=>zu (h2 k h) hs) fun h=>h.2),fun b hb=>hb.elim (fun h=>zu (h2 b h) hs) fun h=>h.2,fun b hb=>?_,fun b=>?_⟩
  ·rcases st.grow b hb with h | h
   ·exact .inl (h3 b h)
   ·obtain ⟨k,o,p,q1,q2,q3⟩:=hb;obtain ⟨_,_,c,t,z,e⟩:=H'.cel k o p b q1 q2 q3;exact .inr ⟨h,(zj.1 e).1⟩
  ·rw [h4];constructor
   ·rintro ⟨a1,a2,a3,a4⟩;exact ⟨zu a1 hs,a2,fun hx=>hx.elim a3 fun hx=>by omega,a4⟩
   ·rintro ⟨a1,a2,a3,a4⟩;have: ¬ (w.heap.size<=b):=fun hx=>a3 (.inr ⟨hx,a1⟩)
    exact ⟨by omega,a2,fun hx=>a3 (.inl hx),a4⟩
section
variable {P:Program} {Γ:Ax}
def Dt.Y (C:Dt P Γ) (L i:Nat):BU P Γ L:=f7 P Γ L C.Rd (C.J i) (C.hJ i)
def Dt.X (C:Dt P Γ) (L:Nat):BU P Γ L:=f7 P Γ L C.Rd C.Jx C.hJx
def Dt.Q (C:Dt P Γ) (L:Nat):QY P Γ L:=fun e _ Y=>(e= .normal∨e= .ret)/\ (Y=C.Y L C.encs.length∨Y=C.X L)
def Zw:DV -> Option Value
 | .int k n=>some (.int k n)
 | .bool b=>some (.bool b)
 | _=>none
theorem xW {M:Nat -> Prop} {w:World} {ρ:List AI} {d:DV} {v u:Value} (h:Zw d=some v) (hr:AJ M w d ρ u):u=v:=by
 cases d <;> simp only [Zw,zAw] at h
 all_goals first | (subst h;exact hr) | (cases h)
def UR:List DV -> Option (List Value)
 | []=>some []
 | d::ds=>match Zw d,UR ds with
  | some v,some vs=>some (v::vs)
  | _,_=>none
theorem fT {M:Nat -> Prop} {w:World} {ρ:List AI} {f:Operand -> Value} {g:Operand -> DV} (hr: ∀ x,AJ M w (g x) ρ (f x)): ∀ {l:List Operand} {vs:List Value},UR (l.map g)=some vs -> l.map f=vs
 | [],vs,h=>by cases h;rfl
 | x::l,vs,h=>by
  simp only [zBF,UR] at h;split at h
  ·rename_i v Bc h1 h2;cases h;rw [zBF,xW h1 (hr x),fT hr h2]
  ·cases h
def PL (P:Program) (Γ:Ax) (ops:Array Oper) (p:Nat) (S:St) (Ao:Bs):Option (List Value×Nat×St×St×List Prop):=match Eg P Γ ops (ops.toList.take p) S Ao with
 | none=>none
 | some (S1,vs,L5)=>match ops[p]? with
  | none=>none
  | some o=>match LW ops S1 o with
   | some true=>match o.op with
    | .call c=>match c.callee with
     | .value f=>match AW S1.fr f with
      | .yl l=>match UR (c.args.toList.map (AW S1.fr)) with
       | none=>none
       | some xs=>match Eg P Γ ops (ops.toList.drop (p+1)) ⟨Dy S1.fr o.dst (.bool true),S1.h⟩ L5 with
        | none=>none
        | some (ST,vT,HF)=>match Eg P Γ ops (ops.toList.drop (p+1)) ⟨Dy S1.fr o.dst (.bool false),S1.h⟩ HF with
         | none=>none
         | some (SF,vF,_)=>some (xs,l,ST,SF,vs++(vT++vF))
      | _=>none
     | _=>none
    | _=>none
   | _=>none
end
section
variable {P:Program} {Γ:Ax} {N:Nat -> Prop} {S:St} {ρ:List AI} {a:Act} {w:World} {F:Fence}
theorem Zk (hF:Du F P) {ops:Array Oper} (Ay:D5 ops=true) {Q:Exit -> Act -> World -> Prop} {Fs:List Oper}: ∀ (l:List Oper) (_: ∀ o∈l,o∈ops) {S:St} {ρ:List AI} {a:Act} {w:World} {Ao:Bs} {S':St} {vs:List Prop} {CP:Bs},
 AY P Γ N S ρ a w -> Eg P Γ ops l S Ao=some (S',vs,CP) -> Bb vs ->
 (∀ ρ' a' w',AY P Γ N S' ρ' a' w' -> Dr S.h ρ w S'.h ρ' w' -> a'.defers=a.defers -> wpListIn F 0 P ops Q Fs a' w') -> wpListIn F 0 P ops Q (l++Fs) a w
 | [],_,S,ρ,a,w,Ao,S',vs,CP,R,h,_,hQ=>by
  cases h;exact hQ ρ a w R (Dr.refl _ _ _) rfl
 | o::rest,hl,S,ρ,a,w,Ao,S',vs,CP,R,h,hv,hQ=>by
  have hd: ∀ c,o.op≠.defer c:=by
   obtain ⟨j,hj,e⟩:=Array.getElem_of_mem (hl o (by simp));exact Hy Ay (j:=j) (by rw [zAV hj,e])
  have EA: ∀ o∈rest,o∈ops:=fun o ho=>hl o (by simp [ho])
  have DC: ∀ v,(a.put o.dst v).defers=a.defers:=fun v=>by cases ho:o.dst <;> simp [Act.put]
  simp only [Eg] at h;rw [List.cons_append];unfold wpListIn;split at h
  ·split at h
   ·cases h
   ·rename_i S1 CV ext1 L5 h1;split at h
    ·cases h
    ·rename_i S2 Eo HF h2;cases h;obtain ⟨Be,CE⟩:=C6.1 hv;exact aL hF R hd h1 Be fun ρ' a' w' R' st EC _=>Zk hF Ay rest EA R' h2 CE fun ρ'' GS CI F8 Ec H9=>hQ ρ'' GS CI F8 (st.trans Ec) (H9.trans EC)
  ·split at h
   ·cases h
   ·rename_i S1 CV SR h1;split at h
    ·cases h
    ·rename_i S2 Eo HF h2;cases h;obtain ⟨Be,CE⟩:=C6.1 hv;obtain ⟨e1,hs⟩:=Tx R h1 Be
     have go: ∀ v,AY P Γ N S1 ρ (a.put o.dst v) w -> wpListIn F 0 P ops Q (rest++Fs) (a.put o.dst v) w:=fun v R'=>
      Zk hF Ay rest EA R' h2 CE fun ρ'' GS CI F8 Ec H9=>hQ ρ'' GS CI F8 (by rw [←e1];exact Ec) (H9.trans (DC v))
     rcases hs with ⟨hw,v,g1,g2⟩ | ⟨hw,g2⟩
     ·rw [zi hw];refine ⟨fun f _=>hF.fn f,?_⟩;rw [zBq _ _ _ hd,g1 w (Keep.ofExt (Au.refl w))];exact go v g2
     ·rw [zr (by rw [hw];exact zBo)];exact ⟨fun f _=>hF.fn f,go undef g2⟩
theorem n9 {l:Nat} {ρ':Operand -> Value} {o:Oper} {c:Call} {f:Operand} {vs:List Value} (ho:o.op= .call c) (hc:c.callee= .value f) (hf:ρ' f= .func (.yield l) #[] #[]) (hv:c.args.toList.map ρ'=vs):(execOp ρ' o).run P w=(Instr.yield l vs.toArray).run P w:=by
 unfold execOp;rw [ho]
 show ((resolve ρ' c o.type)>>=fun d=>invoke d.target d.args).run P w=_
 unfold resolve;rw [hc];simp only [Deferred.ofValue,hf]
 have e: #[]++Array.map ρ' c.args=vs.toArray:=by
  rw [←hv];apply Array.ext';simp
 have he:((pure { target:=.fn (.yield l) #[],args:=#[]++Array.map ρ' c.args }:Sem Deferred)>>=fun d=>invoke d.target d.args).run P w=(Instr.yield l (#[]++Array.map ρ' c.args)).run P w:=rfl;rw [he,e]
theorem Tr.yield {L:Nat} {C:Dt P Γ} {i:Nat} {Q:QY P Γ L} (hF:Du Fence.wide P) {id:Nat} {ops:Array Oper} {p:Nat} {Ao:Bs} {x:Array Value} {ST SF:St} {vs:List Prop} (Ay:D5 ops=true)
 (h:PL P Γ ops p S Ao=some (x.toList,C.l,ST,SF,vs)) (hv:Bb vs) (hx:C.encs[i]? =some x) (hT:Q .normal ST (C.Y L (i+1))) (hE:Q .normal SF (C.X L)):Tr P Γ Fence.wide none L (C.Y L i) (.region id ops false) S Q:=fun N ρ a w R y m b=>by
 unfold PL at h;split at h
 ·cases h
 rename_i S1 CV L5 h1;split at h
 ·cases h
 rename_i o ho;split at h
 ·rename_i hw;split at h
  ·rename_i c vB;split at h
   ·rename_i f hc;split at h
    ·rename_i l hl;split at h
     ·cases h
     rename_i xs Yc;split at h
     ·cases h
     rename_i ST' vT HF h2;split at h
     ·cases h
     rename_i SF' vF Ns h3;cases h;obtain ⟨Be,Cn⟩:=C6.1 hv;obtain ⟨tI,tJ⟩:=C6.1 Cn;have hp:p<ops.toList.length:=by simpa using (zj.1 ho).1
     have tR:ops.toList=ops.toList.take p++o::ops.toList.drop (p+1):=by
      have e:ops.toList[p]=o:=by
       have:=(zj.1 ho).2;simpa using this
      rw [←e,←zAD hp,List.take_append_drop]
     have Bv: ∀ o'∈ops.toList,o'∈ops:=fun o' h=>by simpa using h
     have hd: ∀ c,o.op≠.defer c:=Hy Ay ho;refine wpIn_region_list ?_;rw [tR];refine Zk hF Ay _ (fun o' Gi=>Bv o' (List.mem_of_mem_take Gi)) R h1 Be fun ρ1 a1 w1 R1 NT vw=>?_
     obtain ⟨G,y1,y2,y3,y4⟩:=(C.Y L i).st y R.hr R1.hr NT.st (fun k p _ hp=>NT.pl k p hp);obtain ⟨fn,tmps,kI,body,hy,hR⟩:=C.hy i x G w1 hx y1;unfold wpListIn;rw [zi (KD R1 hw)]
     have vj:a1.eval f= .func (.yield C.l) #[] #[]:=by
      have hr:=BZ R1 f;rw [hl] at hr;exact hr
     have wF:c.args.toList.map a1.eval=x.toList:=fT (f:=a1.eval) (g:=AW S1.fr) (fun x=>BZ R1 x) Yc;refine ⟨fun f _=>hF.fn f,?_⟩;rw [zBq _ _ _ hd,n9 vB hc vj wF,hy];refine ⟨fun hx=>(by cases hx),hR.mono ?_⟩;have Ag:a1.defers= []:=vw.trans m;rintro e W' ⟨hu,hj⟩;have hs:=hu.size;have BT:AN N w1 W':=hu.mono fun bb AK hn=>(y4 bb).2 ⟨AK,zCV fun hx=>hn (.inr (C.lo bb hx)),fun hx=>hn (.inl hx),fun hx=>hn (.inr hx)⟩
     have ij: ∀ bb,N bb -> N bb/\ Γ.ng<=bb:=fun bb hb=>⟨hb,((y4 bb).1 hb).2.1⟩
     have iZ: ∀ bb,(bb<W'.heap.size/\ Γ.ng<=bb/\ ¬ G bb/\ ¬ C.Rd bb) -> N bb∨w1.heap.size<=bb:=fun bb ⟨q1,q2,q3,q4⟩=>by
      rcases zA2 bb w1.heap.size with h | h
      ·exact .inl ((y4 bb).2 ⟨h,q2,q3,q4⟩)
      ·exact .inr h
     have H':BP P Γ (fun bb=>bb<W'.heap.size/\ Γ.ng<=bb/\ ¬ G bb/\ ¬ C.Rd bb) S1.h ρ1 W':=R1.hr.foreign BT ij iZ fun bb ⟨q1,q2,_⟩=>⟨q1,q2⟩
     have CT:AY P Γ (fun bb=>bb<W'.heap.size/\ Γ.ng<=bb/\ ¬ G bb/\ ¬ C.Rd bb) S1 ρ1 a1 W':=⟨H',R1.fr.out (BO.foreign (Γ:=Γ) BT ij iZ)⟩;have DC: ∀ v,(a1.put o.dst v).defers=a1.defers:=fun v=>by cases ho:o.dst <;> simp [Act.put]
     rcases hj with ⟨rfl,hj⟩ | ⟨rfl,hj⟩
     ·have R':=Hn CT o.dst (d:=.bool true) (v:=.bool true) rfl;refine K3 hF Ay _ (fun o' Gi=>Bv o' (List.mem_of_mem_drop Gi)) R' h2 tI fun ρ2 a2 w2 R2 Pj ZR=>?_
      refine ⟨ST,ρ2,_,C.Y L (i+1),hT,R2,(C.Y L (i+1)).st ⟨G,hj,fun bb hb=>zu (y2 bb hb) hs,y3,fun bb=>Iff.rfl⟩ R'.hr R2.hr Pj.st (fun k p _ hp=>Pj.pl k p hp),?_,Bd.none⟩
      show a2.defers= []
      rw [ZR,DC];exact Ag
     ·have R':=Hn CT o.dst (d:=.bool false) (v:=.bool false) rfl;refine K3 hF Ay _ (fun o' Gi=>Bv o' (List.mem_of_mem_drop Gi)) R' h3 tJ fun ρ2 a2 w2 R2 Pj ZR=>?_
      refine ⟨SF,ρ2,_,C.X L,hE,R2,(C.X L).st ⟨G,hj,fun bb hb=>zu (y2 bb hb) hs,y3,fun bb=>Iff.rfl⟩ R'.hr R2.hr Pj.st (fun k p _ hp=>Pj.pl k p hp),?_,Bd.none⟩
      show a2.defers= []
      rw [ZR,DC];exact Ag
    ·cases h
   ·cases h
  ·cases h
 ·cases h
end
theorem jL {P:Program} {f:Nat} {fn:Func} (hf:P.funcs[f]? =some fn) (hb:fn.body.isSome=true) (hn:(fn.name== "runtime.NumGoroutine")=false) (args:Array Value) (W:World):(callFunc f args).run P W= .ok (.enter f args) W:=by
 have OR: ¬ fn.name= "runtime.NumGoroutine" :=by simpa using hn
 have Cy: ¬ fn.body=none:=by intro e;rw [e] at hb;cases hb
 simp [callFunc,go_sem,hf,OR,Cy]
theorem ES.iterN {P:Program} {Γ:Ax} {f gf m:Nat} {fn:Func} {ds:List DV} {c:Nat -> DV} {h0:DH} {encs:List (Array Value)} (EU:ES P Γ f ds [] (.fn gf m c) h0 true) (FE:ds.all Gf=true)
 (hf:P.funcs[gf]? =some fn) (hb:fn.body.isSome=true) (hn:(fn.name== "runtime.NumGoroutine")=false) (Uz:fn.results= #[])
 (body: ∀ C:Dt P Γ,C.encs=encs -> At P Γ Fence.wide none h0.length (C.Y h0.length 0) (C.Q h0.length) [.code (Aa fn)] ⟨.yl C.l::(List.range m).map c++List.replicate (fn.ntmps-(m+1)) .any,h0⟩) (h:DH):ES P Γ f ds h (.it h.length) (h++[some (.iter encs)]) true:=by
 refine ⟨EU.1,fun N ρ w args HR B9=>?_⟩;refine (EU.2 (MS N h ρ) [] w args (OM (fun b hb=>HR.lt2 hb) HR.gi) ⟨B9.1,fun i hi=>?_⟩).mono ?_
 ·have hx:=Nu (zq.1 FE (ds.getD i .any) (by simp [hi]));exact AJ.out _ (DB (fun b hb=>NG.1 hb) []) (hx _ _ _ _ (B9.2 i hi))
 ·rintro e w' ⟨v,rfl,⟨⟨ρ',g1,g2,g3,g4⟩,g5⟩⟩;have hE:=g5 rfl;obtain ⟨lb,hv,hl,OT⟩:=g2;have HP: ∀ b,MO h0 ρ' b -> w.heap.size<=b:=fun b hb=>(g3.grow b hb).resolve_left fun ⟨k,o',p',q1,_⟩=>by simp at q1
  have Co: ∀ b,MO h0 ρ' b -> Γ.ng<=b/\ ¬ MS N h ρ b/\ C8 w' b:=fun b ⟨k,o,q,q1,q2,q3⟩=>g1.cel k o q b q1 q2 q3
  have GK:Γ.ng<=w.heap.size:=Γ.lo _ HR.gi;have Am:=hE.size
  have AK: ∀ b,MO h0 ρ' b -> b<w'.heap.size:=fun b hb=>by
   obtain ⟨_,_,c,t,z,h⟩:=Co b hb;exact (zj.1 h).1
  have lo: ∀ b,b<Γ.ng -> b<w'.heap.size/\ ¬ MS (MS N h ρ) h0 ρ' b:=fun b hb=>⟨zu hb (zt GK Am),fun hx=>by
   rcases hx with hx | hx
   ·have:=(HR.lt2 hx).2;omega
   ·have:=(Co b hx).1;omega⟩
  let p:AI:=⟨0,0,0,v,fun b=>MO h0 ρ' b⟩
  have hp: ∀ b,p.foot b -> w.heap.size<=b/\ C8 w' b:=fun b hb=>⟨HP b hb,(Co b hb).2.2⟩
  refine ⟨v,rfl,⟨⟨ρ++[p],HR.snoc hE hp ?_,⟨p,by rw [←HR.len];simp,rfl⟩,A9.snoc HR hE fun b hb=>(hp b hb).1,fun _ _ h=>Dg h⟩,g5⟩⟩;refine ⟨gf,lb,fun b=>b<w'.heap.size/\ ¬ MS (MS N h ρ) h0 ρ' b,⟨hv,fun args W=>jL hf hb hn args W⟩,?_,fun b hb=>⟨fun hm=>?_,hb.1⟩,AK⟩
  ·intro l J Jx G W hJ hJx hU hG Zg hY wb
   let C:Dt P Γ:=⟨l,fun b=>b<w'.heap.size/\ ¬ MS (MS N h ρ) h0 ρ' b,encs,J,Jx,hJ,hJx,lo,hY⟩
   have T:=body C rfl;cases hc:fn.body with
   | none=>rw [hc] at hb;cases hb
   | some code=>
   have eb:Aa fn=code:=by unfold Aa;rw [hc];rfl
   rw [eb] at T;refine callsIn_of_wp hf hc trivial ?_ rfl
   have iY: ∀ b,(b<W.heap.size/\ Γ.ng<=b/\ ¬ G b/\ ¬ (b<w'.heap.size/\ ¬ MS (MS N h ρ) h0 ρ' b)) -> MS N h ρ b∨w'.heap.size<=b:=fun b ⟨_,_,q3,q4⟩=>by
    rcases zA2 b w'.heap.size with hx | hx
    ·by_cases hm:MS (MS N h ρ) h0 ρ' b
     ·rcases hm with hm | hm
      ·exact .inl hm
      ·exact absurd (hG b hm) q3
     ·exact absurd ⟨hx,hm⟩ q4
    ·exact .inr hx
   have hu:AN (fun b=>MS N h ρ b) w' W:=hU.mono fun b AK hx=>by
    by_cases hm:MS (MS N h ρ) h0 ρ' b
    ·rcases hm with hm | hm
     ·exact hm
     ·exact absurd (.inl hm) hx
    ·exact absurd (.inr ⟨AK,hm⟩) hx
   have ig: ∀ b,MS N h ρ b -> MS N h ρ b/\ Γ.ng<=b:=fun b hb=>⟨hb,(HR.lt2 hb).2⟩
   have HW:BP P Γ (fun b=>b<W.heap.size/\ Γ.ng<=b/\ ¬ G b/\ ¬ (b<w'.heap.size/\ ¬ MS (MS N h ρ) h0 ρ' b)) h0 ρ' W:=g1.foreign hu ig iY fun b hb=>⟨hb.1,hb.2.1⟩
   have wo:B0 (MS (MS N h ρ) h0 ρ') w' ρ' ((List.range m).map c) lb:=⟨by simp [hl],fun j hj=>by
    have BH:j<m:=by simpa using hj
    obtain ⟨u,q1,q2⟩:=OT j BH;have e1:((List.range m).map c).getD j .any=c j:=by simp [BH]
    have e2:lb.getD j undef=u:=by rw [zAJ,q1];rfl
    rw [e1,e2];exact q2⟩
   have wq:=wo.out (BO.foreign (Γ:=Γ) hu ig iY)
   have fr:B0 (MS (fun b=>b<W.heap.size/\ Γ.ng<=b/\ ¬ G b/\ ¬ (b<w'.heap.size/\ ¬ MS (MS N h ρ) h0 ρ' b)) h0 ρ') W ρ' (.yl l::(List.range m).map c++List.replicate (fn.ntmps-(m+1)) .any) (#[.func (.yield l) #[] #[]]++lb++Array.replicate (fn.ntmps-(#[Value.func (.yield l) #[] #[]]++lb).size) undef):=by
    have e3:fn.ntmps-(#[Value.func (.yield l) #[] #[]]++lb).size=fn.ntmps-(m+1):=by simp [hl,Nat.add_comm]
    rw [e3];refine B0.append ?_ (B0.anys _ _ _ _);have:DV.yl l::(List.range m).map c= [DV.yl l]++(List.range m).map c:=rfl;rw [this]
    exact B0.append ⟨rfl,fun j hj=>by
     have:j=0:=by simpa using hj
     subst this;rfl⟩ wq
   refine zBj ((show Tr P Γ Fence.wide none h0.length (C.Y h0.length 0) code _ (DX P Γ Fence.wide none h0.length (C.Q h0.length) []) from T) _ ρ' _ W ⟨HW,fr⟩ ⟨G,wb,Zg,fun b hb=>hG b hb,fun b=>Iff.rfl⟩ rfl Bd.none) ?_;rintro e a' W' ⟨S',ρ2,N',Y',q1,q2,q3,q4,q5⟩
   have fin:(Y'=C.Y h0.length C.encs.length∨Y'=C.X h0.length) -> (∃ G',J encs.length G' W')∨∃ G',Jx G' W':=by
    rintro (rfl | rfl)
    ·obtain ⟨G',k1,_⟩:=q3;exact .inl ⟨G',k1⟩
    ·obtain ⟨G',k1,_⟩:=q3;exact .inr ⟨G',k1⟩
   cases e with
   | normal=>exact bodyPost_end (results_none Uz _ _ _) q4 ⟨⟨_,rfl⟩,fin q1.2⟩
   | ret=>exact bodyPost_ret (results_none Uz _ _ _) q4 ⟨⟨_,rfl⟩,fin q1.2⟩
   | exit id=>exact absurd q1.1 (by simp)
   | goto t=>exact absurd q1.1 (by simp)
   | panic ch=>exact q1.elim
   | outgrown=>exact q1.elim
  ·rcases hm with hm | hm
   ·exact hb.2 (.inl (.inl hm))
   ·rcases MO.snoc HR hm with hm | hm
    ·exact hb.2 (.inl (.inr hm))
    ·exact hb.2 (.inr hm)
section
variable {P:Program} {Γ:Ax}
def QJ:List KI -> Option (Array Oper×List KI)
 | .code (.region _ ops false)::k=>some (ops,k)
 | _=>none
def XX (live σ:List Nat) (L:Nat) (r:List Value×Nat×St×St×List Prop):List Value×Nat×List DV×DH×List DV×DH×List Prop×Bool:=
 (r.1,r.2.1,(Proofs.YtgkhhfnhacibcaaGreatDoor.comp live σ r.2.2.1).fr,(Proofs.YtgkhhfnhacibcaaGreatDoor.comp live σ r.2.2.1).h,(Proofs.YtgkhhfnhacibcaaGreatDoor.comp live σ r.2.2.2.1).fr,(Proofs.YtgkhhfnhacibcaaGreatDoor.comp live σ r.2.2.2.1).h,r.2.2.2.2,JE σ L r.2.2.1.h.length&&JE σ L r.2.2.2.1.h.length)
theorem At.yieldAt {L:Nat} {C:Dt P Γ} {i:Nat} {Q:QY P Γ L} {S:St} {K k:List KI} {ops:Array Oper} (hF:Du Fence.wide P) (hK:QJ K=some (ops,k)) (Ay:D5 ops=true) (p:Nat) (Ao:Bs) {x:Array Value} (live σ:List Nat) (Ok:List DV) (hT:DH) (Ol:List DV) (hE:DH) (vs:List Prop)
 (h:(PL P Γ ops p S Ao).map (XX live σ L)=some (x.toList,C.l,Ok,hT,Ol,hE,vs,true)) (hv:Bb vs) (hx:C.encs[i]? =some x) (hc:Hz k=true) (ZH:At P Γ Fence.wide none L (C.Y L (i+1)) Q k ⟨Ok,hT⟩) (ZI:At P Γ Fence.wide none L (C.X L) Q k ⟨Ol,hE⟩):At P Γ Fence.wide none L (C.Y L i) Q K S:=by
 unfold QJ at hK;split at hK
 ·rename_i id qQ k';cases hK;cases hr:PL P Γ ops p S Ao with
  | none=>rw [hr] at h;cases h
  | some r=>
   obtain ⟨xs,l,ST,SF,CV⟩:=r;rw [hr] at h;simp only [zAR,XX,zAw,zBJ,zm] at h;obtain ⟨rfl,rfl,rfl,rfl,rfl,rfl,rfl,s1,s2⟩:=h;exact Tr.yield hF Ay hr hv hx (BN.le (BI.comp live σ ST s1) hc ZH) (BN.le (BI.comp live σ SF s2) hc ZI)
 ·cases hK
theorem fU {α β:Type} {o:Option α} {f:α -> β} {r:β} (h:o.map f=some r): ∃ a,o=some a/\ r=f a:=by
 cases o with
 | none=>cases h
 | some a=>cases h;exact ⟨a,rfl,rfl⟩
theorem jV {α β:Type} {l:List β} {i:Nat} {f:α -> β} {x:α} {r:List α} (hd:l.drop i=(x::r).map f):l[i]? =some (f x)/\ i+1<=l.length/\ l.drop (i+1)=r.map f:=by
 have AK:i<l.length:=by
  rcases zA2 i l.length with h | h
  ·exact h
  ·rw [zAj h] at hd;cases hd
 rw [zAD AK] at hd;injection hd with h1 h2
 exact ⟨by rw [zf AK,h1],AK,h2⟩
theorem Zx {α β:Type} {l:List β} {i:Nat} {f:α -> β} (hi:i<=l.length) (hd:l.drop i=([]:List α).map f):i=l.length:=by
 have:=congrArg List.length hd;simp at this;omega
end
def Br (x:Int):Array Value:=#[.int .i64 x]
def M0 (x:Int×Int):Array Value:=#[.int .i64 x.1,.int .i64 x.2]
end Go.Proofs.YtgkhhfnhacibcaaGreatDoor
