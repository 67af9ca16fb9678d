/- Part 2 of 7 of what the proofs of these laws stand on. -/
import Derived.Test.YtekkngkphejfcaaGreatDoorPsA
import Derived.Test.YtekkngkphejfcaaGreatDoorProg
import Derived.Shelf.Spec.TrailingZeros
set_option linter.all false
namespace Go.Proofs.YtekkngkphejfcaaGreatDoor
open Go.RowKit
def zdX (P:Program) (t:TypeId):Option (Nat×TypeId×TypeInfo):=match P.underlying t with
 | some (.slice e)=>match zb6 P e with
  | some (n,_)=>match P.info? e with
   | some i=>match i.zero with
    | some (.map none)=>if i.size=1∧i.bytes≤128 then some (n,e,i) else none
    | _=>none
   | none=>none
  | none=>none
 | _=>none
theorem zXd {P:Program} {t e:TypeId} {n:Nat} {i:TypeInfo} (h:zdX P t=some (n,e,i)):P.underlying t=some (.slice e)∧P.info? e=some i∧i.zero=some (.map none)∧i.size=1∧i.bytes≤128:=by
 unfold zdX at h
 split at h
 ·rename_i e' hu
  split at h
  ·split at h
   ·rename_i i' hi
    split at h
    ·rename_i hz
     split at h
     ·rename_i hc
      cases h
      exact ⟨hu,hi,hz,hc.1,hc.2⟩
     ·cases h
    ·cases h
   ·cases h
  ·cases h
 ·cases h
section
variable {P:Program} {Γ:Glo} {N:Nat→Prop} {S:St} {ρ:List zAJ} {a:Act} {w:World} {h:DH}
theorem zNf {α:Type} {n j:Nat} {x y:α} (h:(List.replicate n x)[j]? =some y):x=y:=by
 rw [List.getElem?_replicate] at h
 split at h
 ·exact Option.some.inj h
 ·cases h
theorem zPz (R:Rel P Γ N S ρ a w) {t e:TypeId} {x y:Operand} {n:Nat} {i:TypeInfo} {kx ky:IntKind} {m:Int} (hT:zdX P t=some (n,e,i)) (hx:opd S.fr x= .int kx m) (hy:opd S.fr y= .int ky m)
 (hn:0≤m∧m≤1000000000000) (o:Oper) (ho:o.op= .makeSlice t x y) (ext:Bool):
 zDl P (execOp a.eval o) w (Got P Γ N S.h ρ w ext (.msl S.h.length 1 0 m.toNat) (S.h++[some (.mo (.sets n (List.replicate m.toNat none) none))])):=by
 obtain ⟨hu,hi,hz,hs,hby⟩:=zXd hT
 have hn1:=hn.1
 have hn2:=hn.2
 have rx:=zAX R x
 have ry:=zAX R y
 rw [hx] at rx
 rw [hy] at ry
 have hcs:(madeCells (Value.map none).cells (m.toNat*i.size)).size=m.toNat:=by rw [size_madeCells,hs,Nat.mul_one]
 have hcell: ∀ j,j<m.toNat→(madeCells (Value.map none).cells (m.toNat*i.size))[j]? =some (Value.map none):=fun j hj=>by
  simp [madeCells,hs,hj,Value.cells,Nat.mod_one]
 refine zDl.value (s:=Instr.makeSlice t (a.eval x) (a.eval y)) (by unfold execOp;rw [ho]) (v:=.slice (some ⟨w.heap.size,0,none⟩) m.toNat m.toNat) (w':=w.alloc (.cells (madeCells (Value.map none).cells (m.toNat*i.size)) e)) ?_ ?_
 ·rw [show a.eval x=_ from rx,show a.eval y=_ from ry]
  refine run_make w t e i _ hu hi hz kx ky m m hn1 (Int.le_refl _) ?_ (by omega)
  have:(i.bytes:Int)*m≤128*1000000000000:=Int.mul_le_mul (by omega) hn2 hn1 (by omega)
  omega
 ·generalize hC:madeCells (Value.map none).cells (m.toNat*i.size)=cs at hcs hcell ⊢
  refine zOJ (ob:=.cells cs e) (o:=.mo (.sets n (List.replicate m.toNat none) none)) (d:=.msl S.h.length 1 0 m.toNat) (pl:=⟨w.heap.size,0,cs.size,.tuple (Array.replicate m.toNat (Value.map none)),fun b=>b=w.heap.size⟩) R.hr rfl rfl (fun M ρ'=>?_) (fun M ρ' hp=>⟨_,m.toNat,hp,by simp,Nat.le_refl _,by unfold LB;omega,by simp [hcs]⟩) ext
  refine ⟨Array.replicate m.toNat (Value.map none),rfl,by simp,⟨cs,e,heap_alloc_new w _,by simp [hcs],Nat.le_refl _,fun j hj=>?_⟩,rfl,fun j l hj=>?_,fun j hj=>?_,fun b hb=>.inl hb,fun i j b h1 h2=>?_⟩
  ·rw [List.length_replicate] at hj
   show cs[0+j]? =_
   rw [Nat.zero_add,hcell j hj,Array.getElem?_replicate,if_pos hj]
  ·have:=zNf hj
   cases this
  ·have hj':=(List.getElem?_eq_some_iff.1 hj).1
   rw [List.length_replicate] at hj'
   rw [Array.getElem?_replicate,if_pos hj']
  ·rw [Array.getElem?_replicate] at h1
   split at h1 <;> cases h1
theorem zDJ.merge (H:zDJ P Γ N h ρ w) {w':World} {k j:Nat} {o oj o':DO} {p q p':zAJ} (hkj:k≠j) (hk:h[k]? =some (some o)) (hp:ρ[k]? =some p) (hj:h[j]? =some (some oj)) (hq:ρ[j]? =some q) (hu:Upd p.foot w w') (hf: ∀ b,p'.foot b→(p.foot b∨q.foot b)∧zQ0 w' b)
 (ho:zBf P (MS N ((h.set k none).set j none++[some o']) (ρ++[p'])) w' (ρ++[p']) p' o'):
 zDJ P Γ N ((h.set k none).set j none++[some o']) (ρ++[p']) w'∧zCH h ρ w ((h.set k none).set j none++[some o']) (ρ++[p']) w':=by
 have hlen:((h.set k none).set j none).length=h.length:=by simp
 have hM: ∀ b,p.foot b→MO h ρ b:=fun b hb=>⟨k,o,p,hk,hp,hb⟩
 have hMq: ∀ b,q.foot b→MO h ρ b:=fun b hb=>⟨j,oj,q,hj,hq,hb⟩
 have get2: ∀ {i:Nat} {o1:DO},((h.set k none).set j none)[i]? =some (some o1)→i≠k∧i≠j∧h[i]? =some (some o1):=fun {i o1} hi=>by
  obtain ⟨e1,e2⟩:=zBT hi
  obtain ⟨e3,e4⟩:=zBT e2
  exact ⟨e3,e1,e4⟩
 have inv: ∀ {i:Nat} {o1:DO} {p1:zAJ},((h.set k none).set j none++[some o'])[i]? =some (some o1)→(ρ++[p'])[i]? =some p1→(i≠k∧i≠j∧i<h.length∧h[i]? =some (some o1)∧ρ[i]? =some p1)∨(i=h.length∧o1=o'∧p1=p'):=by
  intro i o1 p1 h1 h2
  rcases zAe h1 with ⟨hl,h1⟩ | ⟨hl,h1⟩
  ·rw [hlen] at hl
   rcases zAe h2 with ⟨_,h2⟩ | ⟨hl2,_⟩
   ·obtain ⟨e1,e2,e3⟩:=get2 h1
    exact .inl ⟨e1,e2,hl,e3,h2⟩
   ·rw [H.len] at hl2;omega
  ·rw [hlen] at hl
   rcases zAe h2 with ⟨hl2,_⟩ | ⟨_,h2⟩
   ·rw [H.len] at hl2;omega
   ·cases h1;exact .inr ⟨hl,rfl,h2.symm⟩
 have grow: ∀ b,MO ((h.set k none).set j none++[some o']) (ρ++[p']) b→MO h ρ b:=by
  rintro b ⟨i,o1,p1,h1,h2,h3⟩
  rcases inv h1 h2 with ⟨_,_,_,g1,g2⟩ | ⟨_,_,rfl⟩
  ·exact ⟨i,o1,p1,g1,g2,h3⟩
  ·exact (hf b h3).1.elim (hM b) (hMq b)
 have O:zDW (MS N h ρ) w ρ (MS N ((h.set k none).set j none++[some o']) (ρ++[p'])) w' (ρ++[p']):=
  ⟨fun b hb hm _=>hu.block b hb fun hx=>hm (.inr (hM b hx)),fun b hb=>.inl (hb.imp id (grow b)),fun i q hi=>zAR hi⟩
 refine ⟨⟨by simp [H.len],fun i o1 hi=>?_,fun i o1 p1 b h1 h2 h3=>?_,fun i i' o1 o2 p1 p2 b hne h1 h2 h3 h4 h5 h6=>?_,fun b hb=>⟨Nat.lt_of_lt_of_le (H.nlt b hb).1 hu.size,(H.nlt b hb).2⟩,Γ.st _ _ H.gi (hu.mono fun b _ hb=>(H.cel k o p b hk hp hb).1)⟩,⟨hu.mono fun b _ hb=>hM b hb,fun b hb=>.inl (grow b hb)⟩⟩
 ·rcases zAe hi with ⟨hl,hi⟩ | ⟨hl,hi⟩
  ·obtain ⟨e1,e2,e3⟩:=get2 hi
   obtain ⟨p1,hp1,hr⟩:=H.obj i o1 e3
   exact ⟨p1,zAR hp1,hr.out O hu (fun b hb=>.inr (hM b hb)) fun b _ h1 h2=>H.dis i k o1 o p1 p b e1 e3 hk hp1 hp h1 h2⟩
  ·cases hi
   exact ⟨p',by rw [hl,hlen,←H.len];simp,ho⟩
 ·rcases inv h1 h2 with ⟨hne,_,_,g1,g2⟩ | ⟨_,_,rfl⟩
  ·obtain ⟨e1,e2,c,t,z,e3⟩:=H.cel i o1 p1 b g1 g2 h3
   exact ⟨e1,e2,c,t,z,(hu.block b (Array.getElem?_eq_some_iff.1 e3).1 fun hx=>H.dis i k o1 o p1 p b hne g1 hk g2 hp h3 hx).trans e3⟩
  ·obtain ⟨e1,e2⟩:=hf b h3
   rcases e1 with e1 | e1
   ·obtain ⟨q1,q2,_⟩:=H.cel k o p b hk hp e1
    exact ⟨q1,q2,e2⟩
   ·obtain ⟨q1,q2,_⟩:=H.cel j oj q b hj hq e1
    exact ⟨q1,q2,e2⟩
 ·have key: ∀ {i o1 p1},i≠k→i≠j→h[i]? =some (some o1)→ρ[i]? =some p1→p1.foot b→p'.foot b→False:=fun {i o1 p1} hne hne2 g1 g2 g3 g4=>by
   rcases (hf b g4).1 with e1 | e1
   ·exact H.dis i k o1 o p1 p b hne g1 hk g2 hp g3 e1
   ·exact H.dis i j o1 oj p1 q b hne2 g1 hj g2 hq g3 e1
  rcases inv h1 h3 with ⟨hne1,hne2,_,g1,g2⟩ | ⟨e1,_,rfl⟩
  ·rcases inv h2 h4 with ⟨hne3,_,_,g3,g4⟩ | ⟨e2,_,rfl⟩
   ·exact H.dis i i' o1 o2 p1 p2 b hne g1 g3 g2 g4 h5 h6
   ·exact key hne1 hne2 g1 g2 h5 h6
  ·rcases inv h2 h4 with ⟨hne1,hne2,_,g1,g2⟩ | ⟨e2,_,rfl⟩
   ·exact key hne1 hne2 g1 g2 h6 h5
   ·exact hne (e1.trans e2.symm)
def mvD (k k':Nat):DV→DV
 | .msl k1 m o n=>if k1=k then .msl k' m o n else .msl k1 m o n
 | d=>d
def zVv (P:Program) (S:St) (o:Oper):Option (St×List Prop):=match o.op with
 | .store t x y=>match o.dst with
  | none=>match opd S.fr x with
   | .mp k 1 i 0=>match opd S.fr y with
    | .it j=>match S.h[k]? with
     | some (some (.mo (.sets n ls none)))=>match S.h[j]? with
      | some (some (.mo (.set n' l)))=>if n'=n∧(P.info? t).any (fun i=>i.size==1)=true then some (⟨S.fr.map (mvD k S.h.length),(S.h.set k none).set j none++[some (.mo (.sets n (ls.set i (some l)) none))]⟩,[i<ls.length]) else none
      | _=>none
     | _=>none
    | _=>none
   | _=>none
  | some _=>none
 | _=>none
theorem zCh.of_map {p:zAJ} {n:Nat} {ls:List (Option KS)} {lk:Option (Nat×Nat×Array MapEntry×Nat)} {vs:Array Value} (hS:zCh w p n ls lk vs) {i b:Nat} (h:vs[i]? =some (Value.map (some b))): ∃ l,ls[i]? =some (some l)∧p.foot b∧b≠p.blk∧∃ es clock,zEf w b n l es clock:=by
 have hi:i<ls.length:=by rw [←hS.size];exact (Array.getElem?_eq_some_iff.1 h).1
 cases hl:ls[i] with
 | none=>
  have:=hS.nil i (by rw [List.getElem?_eq_getElem hi,hl])
  rw [this] at h;cases h
 | some l=>
  have hl':ls[i]? =some (some l):=by rw [List.getElem?_eq_getElem hi,hl]
  obtain ⟨b',g1,g2,g3,es,clock,g4,_⟩:=hS.has i l hl'
  have:b'=b:=by rw [g1] at h;cases h;rfl
  subst this
  exact ⟨l,hl',g3,g2,es,clock,g4⟩
theorem zJI (R:Rel P Γ N S ρ a w) {o:Oper} {S':St} {vs:List Prop} (h:zVv P S o=some (S',vs)) (hv:zDk vs):
 zDl P (execOp a.eval o) w (fun v w'=>(∃ ρ',Rel P Γ N S' ρ' (a.put o.dst v) w'∧zGJ S.h ρ w S'.h ρ' w')∧∃ k i p t x y,o.op= .store t x y∧opd S.fr x= .mp k 1 i 0∧ρ[k]? =some p∧Upd p.foot w w'):=by
 unfold zVv at h
 split at h
 case h_2=>cases h
 rename_i t x y ho
 split at h
 case h_2=>cases h
 rename_i hdst
 split at h
 case h_2=>cases h
 rename_i k i hX
 split at h
 case h_2=>cases h
 rename_i j hY
 split at h
 case h_2=>cases h
 rename_i n ls hK
 split at h
 case h_2=>cases h
 rename_i n' l hJ
 split at h
 case isFalse=>cases h
 rename_i hc
 cases h
 obtain ⟨hnn,hsz⟩:=hc
 subst hnn
 have hi:i<ls.length:=hv.1
 have rx:=zAX R x
 have ry:=zAX R y
 rw [hX] at rx
 rw [hY] at ry
 obtain ⟨p,hp,ex⟩:=rx
 obtain ⟨q,es,clock,hq,ey,hqf,hqv,hA⟩:=zV2 R hJ ry
 obtain ⟨p',hp',vs0,hS⟩:=R.hr.obj k _ hK
 have:p'=p:=Option.some.inj (hp'.symm.trans hp)
 subst this
 have hkj:k≠j:=fun e=>by subst e;rw [hK] at hJ;cases hJ
 obtain ⟨cs,ty,hb,hl1,hl2,hcell⟩:=hS.row
 cases hti:P.info? t with
 | none=>rw [hti] at hsz;cases hsz
 | some ti=>
 rw [hti] at hsz
 have hsz':ti.size=1:=by simpa using hsz
 have hisz:i<vs0.size:=by rw [hS.size];exact hi
 have hqn: ∀ b,p'.foot b→b≠q.blk:=fun b hb e=>R.hr.dis k j _ _ p' q b hkj hK hJ hp hq hb (by rw [hqf];exact e)
 have ex':a.eval x= .pointer (some ⟨p'.blk,p'.off+i,none⟩):=by rw [ex];simp
 have hcl:w.cell? ⟨p'.blk,p'.off+i,none⟩=some vs0[i]:=by
  unfold World.cell?
  simp only [hb]
  rw [hcell i hi,Array.getElem?_eq_getElem hisz]
  rfl
 have hfz: ∀ jj,w.frozen? ⟨p'.blk,jj,none⟩=false:=fun jj=>by unfold World.frozen?;simp [hb]
 have hU:Upd p'.foot w (w.setCells p'.blk (p'.off+i) (a.eval y).cells.toList):=(zCx _ _ _ _).mono fun b _ e=>by rw [show b=p'.blk from e];exact hS.blk
 refine zDl.skip (s:=Instr.storeAt t (a.eval x) (a.eval y)) (by unfold execOp;rw [ho]) (w':=w.setCells p'.blk (p'.off+i) (a.eval y).cells.toList) ?_ ?_
 ·rw [ex']
  refine zJQ hti (by rw [ey,hsz'];rfl) (fun jj hjj=>?_) hfz (fun u hu=>?_)
  ·rw [ey] at hjj
   have:jj=0:=by simpa [Value.cells] using hjj
   subst this
   rw [Nat.add_zero,hcl];rfl
  ·rw [ey] at hu
   have:u= .map (some q.blk):=by simpa [Value.cells] using hu
   subst this;rfl
 ·rw [hdst]
  rw [ey] at hU ⊢
  have eC:(Value.map (some q.blk)).cells.toList= [Value.map (some q.blk)]:=rfl
  rw [eC] at hU ⊢
  obtain ⟨cs',e1,e2,e3⟩:=zCZ p'.blk ty (0,0) [Value.map (some q.blk)] (p'.off+i) w cs hb (by simp;omega)
  generalize hW:w.setCells p'.blk (p'.off+i) [Value.map (some q.blk)]=W at hU e1 ⊢
  have at_: ∀ {b ob},b≠p'.blk→w.heap[b]? =some ob→W.heap[b]? =some ob:=fun {b ob} hne hob=>by
   rw [←hob,←hW]
   exact (zCx p'.blk [Value.map (some q.blk)] (p'.off+i) w).block b (Array.getElem?_eq_some_iff.1 hob).1 hne
  have qne:q.blk≠p'.blk:=fun e=>hqn p'.blk hS.blk e.symm
  let vs':=vs0.setIfInBounds i (Value.map (some q.blk))
  have hvs: ∀ m:Nat,vs'[m]? =if i=m then some (Value.map (some q.blk)) else vs0[m]? :=fun m=>by
   show (vs0.setIfInBounds i _)[m]? =_
   rw [Array.getElem?_setIfInBounds]
   by_cases e:i=m
   ·rw [if_pos e,if_pos e,if_pos hisz]
   ·rw [if_neg e,if_neg e]
  let p2:zAJ:=⟨p'.blk,p'.off,p'.room,.tuple vs',fun b=>b=p'.blk∨∃ m:Nat,vs'[m]? =some (Value.map (some b))⟩
  have lsg: ∀ {m:Nat} {z:Option KS},(ls.set i (some l))[m]? =some z→(m=i∧z=some l)∨(m≠i∧ls[m]? =some z):=fun {m z} hm=>by
   rw [List.getElem?_set] at hm
   by_cases e:i=m
   ·subst e;simp [hi] at hm;exact .inl ⟨rfl,hm.symm⟩
   ·rw [if_neg e] at hm;exact .inr ⟨Ne.symm e,hm⟩
  have SA:zCh W p2 n' (ls.set i (some l)) none vs':=by
   refine ⟨rfl,by simp [vs',hS.size],⟨cs',ty,e1,by simpa [e2] using hl1,by rw [e2];exact hl2,fun m hm=>?_⟩,.inl rfl,fun m l1 hm=>?_,fun m hm=>?_,fun b hb=>?_,fun m m' b h1 h2=>?_⟩
   ·rw [List.length_set] at hm
    show cs'[p'.off+m]? =vs'[m]?
    rw [e3,hvs]
    by_cases e:i=m
    ·subst e
     rw [if_pos (by simp),if_pos rfl]
     simp
    ·rw [if_neg (by simp;omega),if_neg e]
     exact hcell m hm
   ·rcases lsg hm with ⟨rfl,e⟩ | ⟨hne,hm⟩
    ·cases e
     refine ⟨q.blk,by rw [hvs,if_pos rfl],qne,.inr ⟨m,by rw [hvs,if_pos rfl]⟩,es,clock,{ hA with blk:=at_ qne hA.blk },fun x hx=>by cases hx⟩
    ·obtain ⟨b,k1,k2,k3,es1,c1,k4,_⟩:=hS.has m l1 hm
     exact ⟨b,by rw [hvs,if_neg (Ne.symm hne)];exact k1,k2,.inr ⟨m,by rw [hvs,if_neg (Ne.symm hne)];exact k1⟩,es1,c1,{ k4 with blk:=at_ k2 k4.blk },fun x hx=>by cases hx⟩
   ·rcases lsg hm with ⟨rfl,e⟩ | ⟨hne,hm⟩
    ·cases e
    ·rw [hvs,if_neg (Ne.symm hne)];exact hS.nil m hm
   ·rcases hb with hb | ⟨m,hm⟩
    ·exact .inl hb
    ·refine .inr ?_
     have hm0:=hm
     rw [hvs] at hm
     by_cases e:i=m
     ·subst e
      exact ⟨i,l,by simp [hi],hm0⟩
     ·rw [if_neg e] at hm
      obtain ⟨l1,g1,_⟩:=hS.of_map hm
      exact ⟨m,l1,by rw [List.getElem?_set,if_neg e];exact g1,hm0⟩
   ·rw [hvs] at h1 h2
    by_cases c1:i=m
    ·by_cases c2:i=m'
     ·omega
     ·rw [if_pos c1] at h1
      rw [if_neg c2] at h2
      cases h1
      obtain ⟨_,_,g2,_⟩:=hS.of_map h2
      exact absurd rfl (hqn _ g2)
    ·rw [if_neg c1] at h1
     by_cases c2:i=m'
     ·rw [if_pos c2] at h2
      cases h2
      obtain ⟨_,_,g2,_⟩:=hS.of_map h1
      exact absurd rfl (hqn _ g2)
     ·rw [if_neg c2] at h2
      exact hS.inj m m' b h1 h2
  have hfoot: ∀ b,p2.foot b→(p'.foot b∨q.foot b)∧zQ0 W b:=fun b hb=>by
   refine ⟨?_,SA.lies hb⟩
   rcases hb with hb | ⟨m,hm⟩
   ·exact .inl (by rw [hb];exact hS.blk)
   ·rw [hvs] at hm
    by_cases e:i=m
    ·rw [if_pos e] at hm
     cases hm
     exact .inr (by rw [hqf])
    ·rw [if_neg e] at hm
     exact .inl (hS.of_map hm).choose_spec.2.1
  obtain ⟨g1,g2⟩:=R.hr.merge (o':=.mo (.sets n' (ls.set i (some l)) none)) (p':=p2) hkj hK hp hJ hq hU hfoot ⟨vs',SA⟩
  have O:zDW (MS N S.h ρ) w ρ (MS N ((S.h.set k none).set j none++[some (.mo (.sets n' (ls.set i (some l)) none))]) (ρ++[p2])) W (ρ++[p2]):=
   ⟨fun b hb hm _=>hU.block b hb fun hx=>hm (.inr ⟨k,_,p',hK,hp,hx⟩),fun b hb=>hb.elim (fun h=>.inl (.inl h)) (fun h=>(g2.grow b h).imp .inr id),fun k q hk=>zAR hk⟩
  refine ⟨⟨ρ++[p2],⟨g1,by simp [R.fr.1,Act.put],fun m hm=>?_⟩,g2,fun k q hk=>zAR hk⟩,k,i,p',t,x,y,ho,hX,hp,hU⟩
  have hm':m<S.fr.length:=by simpa using hm
  have e:(S.fr.map (mvD k S.h.length)).getD m .any=mvD k S.h.length (S.fr.getD m .any):=by simp [hm']
  show zAU _ W ((S.fr.map (mvD k S.h.length)).getD m .any) _ _
  rw [e]
  have r0:=R.fr.2 m hm'
  cases hd:S.fr.getD m .any with
  | msl k1 m1 o1 n1=>
   rw [hd] at r0
   by_cases hc:k1=k
   ·have e2:mvD k S.h.length (.msl k1 m1 o1 n1)= .msl S.h.length m1 o1 n1:=by simp only [mvD,if_pos hc]
    rw [e2]
    rw [hc] at r0
    obtain ⟨q0,cap,hq0,hu0,u1,u2,u3⟩:=r0
    have eq0:q0=p':=Option.some.inj (hq0.symm.trans hp)
    subst eq0
    exact ⟨p2,cap,by rw [←R.hr.len];simp,hu0,u1,u2,u3⟩
   ·have e2:mvD k S.h.length (.msl k1 m1 o1 n1)= .msl k1 m1 o1 n1:=by simp only [mvD,if_neg hc]
    rw [e2]
    exact zAU.out _ O r0
  | _=>rw [hd] at r0;exact zAU.out _ O r0
end
end Go.Proofs.YtekkngkphejfcaaGreatDoor
namespace Go.Proofs.YtekkngkphejfcaaGreatDoor
open Go.RowKit
def ES (P:Program) (Γ:Glo) (f:Nat) (ds:List DV) (h:DH) (d:DV) (h':DH) (ext:Bool):Prop:=
 (∃ fn,P.funcs[f]? =some fn∧fn.name≠ "runtime.NumGoroutine" ∧fn.body.isSome=true)∧
 ∀ (N:Nat→Prop) (ρ:List zAJ) (w:World) (args:Array Value),zDJ P Γ N h ρ w→zBs (MS N h ρ) w ρ ds args→
  Calls P f args w fun e w'=>∃ v,e= .returned v∧Got P Γ N h ρ w ext d h' v w'
structure Orc where
 calls:List (DV×DH×Bool)
 co:List (Nat×DV)
 fz:List (Nat×Fz):=[]
 tg:List (List (Nat×Nat)×St):=[]
def zdo:DV:=.tup 0 (fun j=>([]:List DV).getD j .any)
theorem zNK {M:Nat→Prop} {w:World} {ρ:List zAJ}:zAU M w zdo ρ undef:=⟨#[],rfl,rfl,fun j hj=>absurd hj (Nat.not_lt_zero j)⟩
def zGv (ops:Array Oper) (S:St) (o:Oper):Option Bool:=match o.guard with
 | none=>some true
 | some (j,want)=>match (ops[j]?).bind (·.dst) with
  | some t=>match S.fr.getD t .any with
   | .bool b=>some (b==want)
   | .tup _ _=>some false
   | _=>none
  | none=>none
def zVj (fr:List DV) (dst:Option Nat) (d:DV):List DV:=match dst with
 | some t=>fr.set t d
 | none=>fr
def coD (co:List (Nat×DV)) (dst:Option Nat) (d:DV):DV×List Prop×List (Nat×DV):=match co with
 | []=>(d,[],[])
 | (t,d')::rest=>match dst with
  | some t'=>if t'=t then (d',[DLe d d'],rest) else (d,[],co)
  | none=>(d,[],co)
def zOa (S:St):Op→Bool
 | .move _=>true
 | .assign _=>true
 | .pick .. =>true
 | .binOp .shl .. =>false
 | .binOp .shr .. =>false
 | .binOp _ _ _ y _=>match opd S.fr y with
  | .nils=>false
  | _=>true
 | .unOp .. =>true
 | .convert .. =>true
 | .nilCheck _=>true
 | .fieldAddr .. =>true
 | .extract .. =>true
 | .makeFunc .. =>true
 | .build .. =>true
 | .field .. =>true
 | .call _=>true
 | .load _ x=>match opd S.fr x with
  | .mp .. =>false
  | _=>true
 | _=>false
def zd5:Op→Bool
 | .box .. =>true
 | .alloc _=>true
 | .buildSlice .. =>true
 | .makeSlice .. =>true
 | .store .. =>true
 | .makeMap .. =>true
 | .mapUpdate .. =>true
 | .insert .. =>true
 | .lookup .. =>true
 | .range .. =>true
 | .entry _=>true
 | .call c=>match c.callee with
  | .builtin .append=>true
  | .value _=>true
  | _=>false
 | _=>false
def zXI (P:Program) (ops:Array Oper) (S:St) (co:List (Nat×DV)) (o:Oper):Option (St×List Prop×List (Nat×DV)):=match zGv ops S o with
 | none=>none
 | some false=>some (⟨zVj S.fr o.dst zdo,S.h⟩,[],co)
 | some true=>match zcp P S o.op with
  | none=>none
  | some (d,vc)=>match coD co o.dst d with
   | (d',vs,co')=>some (⟨zVj S.fr o.dst d',S.h⟩,(if zOa S o.op then vs else vc::vs),co')
def zco (P:Program) (ops:Array Oper):List Oper→St→List (Nat×DV)→Option (St×List Prop×List (Nat×DV))
 | [],S,co=>some (S,[],co)
 | o::rest,S,co=>match zXI P ops S co o with
  | none=>none
  | some (S',vs,co')=>match zco P ops rest S' co' with
   | none=>none
   | some (S'',vs',co'')=>some (S'',vs++vs',co'')
def zcW (P:Program) (Γ:Glo) (S:St) (calls:List (DV×DH×Bool)):Op→Option (DV×DH×List Prop×Bool×List (DV×DH×Bool))
 | .box _ x=>match zF8 (opd S.fr x) with
  | some l=>some (.ref S.h.length 0,S.h++[some (.cells l)],[],true,calls)
  | none=>none
 | .alloc t=>match P.info? t with
  | some i=>match i.zero with
   | some z=>if zQ1 z then some (.mp S.h.length 1 0 0,S.h++[some (.bools (List.replicate z.cells.size false))],[],true,calls)
    else some (.ref S.h.length 0,S.h++[some (.cells (z.cells.toList.map ofV))],[],true,calls)
   | none=>none
  | none=>none
 | .buildSlice t len parts=>match ekB P t with
  | some (k,_,_,_)=>if zTU parts.toList len&&decide (len≤65536∧k.cells≤64) then match zNB k (parts.toList.map fun x=>opd S.fr x.2) with
   | some ob=>some (.msl S.h.length k.cells 0 len,S.h++[some ob],[],true,calls)
   | none=>none
   else none
  | none=>none
 | .makeSlice t x y=>match zdX P t with
  | some (n,_,_)=>match opd S.fr x,opd S.fr y with
   | .int _ m,.int _ m'=>some (.msl S.h.length 1 0 m.toNat,S.h++[some (.mo (.sets n (List.replicate m.toNat none) none))],[m'=m∧0≤m∧m≤1000000000000],true,calls)
   | _,_=>none
  | none=>match ekB P t with
   | some (k,_,i,z)=>if decide (i.bytes≤128) then match opd S.fr x,opd S.fr y with
    | .int _ n,.int _ n'=>some (.msl S.h.length k.cells 0 n.toNat,S.h++[some (zcu k n.toNat z)],[n'=n∧0≤n∧n≤1000000000000],true,calls)
    | _,_=>none
    else none
   | none=>none
 | .store t x y=>match zKX P S t (opd S.fr x) (opd S.fr y) with
  | some (h',vc)=>some (.any,h',[vc],false,calls)
  | none=>none
 | .call c=>match c.callee with
  | .builtin .append=>match c.args.toList with
   | [x,y]=>match c.argTypes.toList with
    | [t,t']=>if t=t' then match zSD P S t (opd S.fr x) (opd S.fr y) with
     | some (d,h',vc)=>some (d,h',[vc],false,calls)
     | none=>none
     else none
    | _=>none
   | _=>none
  | .value f=>match opd S.fr f,calls with
   | .fn g m cap,(d,h',ext)::rest=>some (d,h',[ES P Γ g (c.args.toList.map (opd S.fr)++(List.range m).map cap) S.h d h' ext],ext,rest)
   | _,_=>none
  | _=>none
 | op=>match zd1 P S op with
  | some (d,h',vs,ext)=>some (d,h',vs,ext,calls)
  | none=>none
def zSC (P:Program) (Γ:Glo) (ops:Array Oper) (S:St) (orc:Orc) (o:Oper):Option (St×List Prop×Bool×Orc):=match zGv ops S o with
 | none=>none
 | some false=>some (⟨zVj S.fr o.dst zdo,S.h⟩,[],true,orc)
 | some true=>match zVv P S o with
  | some (S',vs)=>some (S',vs,false,orc)
  | none=>match zcW P Γ S orc.calls o.op with
   | none=>none
   | some (d,h',vs,ext,calls)=>match coD orc.co o.dst d with
    | (d',vs',co')=>match zde orc.fz o.dst ⟨zVj S.fr o.dst d',h'⟩ with
     | none=>none
     | some (S',vs'',fz')=>some (S',vs++(vs'++vs''),ext,⟨calls,co',fz',orc.tg⟩)
def zOI (P:Program) (Γ:Glo) (ops:Array Oper):List Oper→St→Orc→Option (St×List Prop×Orc)
 | [],S,orc=>some (S,[],orc)
 | o::rest,S,orc=>match zd5 o.op with
  | true=>match zSC P Γ ops S orc o with
   | none=>none
   | some (S',vs,_,orc')=>match zOI P Γ ops rest S' orc' with
    | none=>none
    | some (S'',vs',orc'')=>some (S'',vs++vs',orc'')
  | false=>match zXI P ops S orc.co o with
   | none=>none
   | some (S',vs,co')=>match zOI P Γ ops rest S' ⟨orc.calls,co',orc.fz,orc.tg⟩ with
    | none=>none
    | some (S'',vs',orc'')=>some (S'',vs++vs',orc'')
def hseq (P:Program) (Γ:Glo) (ops:Array Oper):List (List Nat×Nat)→List Nat→List Nat→St→Orc→Option (St×List Prop×Orc)
 | [],last,tail,S,orc=>match zco P ops (zBj ops last) S orc.co with
  | none=>none
  | some (S',vs,co')=>match zOI P Γ ops (zBj ops tail) S' ⟨orc.calls,co',orc.fz,orc.tg⟩ with
   | none=>none
   | some (S'',vs',orc'')=>some (S'',vs++vs',orc'')
 | (seg,i)::more,last,tail,S,orc=>match zco P ops (zBj ops seg) S orc.co with
  | none=>none
  | some (S',vs,co')=>match ops[i]? with
   | none=>none
   | some o=>match zSC P Γ ops S' ⟨orc.calls,co',orc.fz,orc.tg⟩ o with
    | none=>none
    | some (S'',vs',ext,orc')=>match ext with
     | false=>none
     | true=>match hseq P Γ ops more last tail S'' orc' with
      | none=>none
      | some (S3,vs3,orc3)=>some (S3,vs++(vs'++vs3),orc3)
section
variable {P:Program} {Γ:Glo} {N:Nat→Prop} {S:St} {ρ:List zAJ} {a:Act} {w:World} {F:Fence}
structure FOk (F:Fence) (P:Program):Prop where
 fn: ∀ f,F.fn f
 dep:F.depth=none
 calls: ∀ {f:FuncId} {args:Array Value} {w:World} {R:Ending→World→Prop},Calls P f args w R→CallsIn F 0 P f args w R
theorem FOk.wide:FOk Fence.wide P:=⟨fun _=>trivial,rfl,fun h=>callsIn_wide.2 h⟩
theorem FOk.round (l:Nat):FOk (Fence.wide.inRound l) P:=⟨fun _=>trivial,rfl,fun h=>CallsIn.inRound _ (callsIn_wide.2 h)⟩
theorem zBD (R:Rel P Γ N S ρ a w) {ops:Array Oper} {o:Oper} {r:Bool} (h:zGv ops S o=some r):Region.wanted o (yielded ops a.tmps)=r:=by
 unfold zGv at h
 unfold Region.wanted
 split at h
 ·rename_i hg
  rw [hg];cases h;rfl
 ·rename_i j want hg
  rw [hg]
  split at h
  ·rename_i t ht
   split at h
   ·rename_i b hb
    cases h
    have hr:=R.fr.at t
    rw [hb] at hr
    have hv:a.tmps.getD t undef= .bool b:=hr
    have:a.tmps[t]? =some (.bool b):=by
     rw [Array.getD_eq_getD_getElem?] at hv
     cases hx:a.tmps[t]? with
     | none=>rw [hx] at hv;cases hv
     | some u=>rw [hx] at hv;exact congrArg some hv
    simp [yielded,ht,this]
   ·rename_i m f hb
    cases h
    have hr:=R.fr.at t
    rw [hb] at hr
    obtain ⟨cs,hv,_⟩:=hr
    have:yielded ops a.tmps j=none:=by
     unfold yielded
     rw [ht]
     show (match a.tmps[t]? with | some (.bool b)=>some b | _=>none)=none
     rw [Array.getD_eq_getD_getElem?] at hv
     cases hx:a.tmps[t]? with
     | none=>rfl
     | some u=>rw [hx] at hv;have hv:u= .tuple cs:=hv;rw [hv]
    simp [this]
   ·cases h
  ·cases h
theorem zDL (R:Rel P Γ N S ρ a w) (dst:Option Nat) {d:DV} {v:Value} (hv:zAU (MS N S.h ρ) w d ρ v):Rel P Γ N ⟨zVj S.fr dst d,S.h⟩ ρ (a.put dst v) w:=by
 refine ⟨R.hr,?_⟩
 cases dst with
 | none=>exact R.fr
 | some t=>exact R.fr.set t hv
theorem zLs {co:List (Nat×DV)} {dst:Option Nat} {d d':DV} {vs:List Prop} {co':List (Nat×DV)} (h:coD co dst d=(d',vs,co')) (hv:zDk vs) {M:Nat→Prop} {v:Value} (hr:zAU M w d ρ v):zAU M w d' ρ v:=by
 unfold coD at h
 split at h
 ·cases h;exact hr
 ·split at h
  ·split at h
   ·cases h;exact hv.1 M w ρ v hr
   ·cases h;exact hr
  ·cases h;exact hr
theorem zS0 {op:Op} {d:DV} {vc:Prop} (h:pop P S op=some (d,vc)) (ht:zOa S op=true):vc:=by
 unfold pop at h
 split at h
 ·cases h;trivial
 ·cases h;trivial
 ·repeat' (split at h)
  all_goals first | (cases h;trivial) | (cases h;done)
 ·rename_i t x
  simp only [zOa] at ht
  unfold zRe at h
  repeat' (split at h)
  all_goals first | (cases h;trivial) | (cases h;done) | (simp_all;done)
 ·rename_i op t x y t'
  unfold zdk at h
  split at h
  ·split at h
   all_goals first | (cases h;trivial) | (cases h;done)
  ·split at h
   all_goals first | (cases h;trivial) | (cases h;done)
  ·rename_i e;simp [zOa,e] at ht
  ·rename_i e;simp [zOa,e] at ht
  ·rename_i e;simp [zOa,e] at ht
  ·cases ht
  ·cases ht
  ·split at h
   ·unfold zdj at h
    split at h
    all_goals first | (cases h;trivial) | (cases h;done)
   ·cases h
  ·cases h
 ·repeat' (split at h)
  all_goals first | (cases h;trivial) | (cases h;done)
 ·repeat' (split at h)
  all_goals first | (cases h;trivial) | (cases h;done)
 ·repeat' (split at h)
  all_goals first | (cases h;trivial) | (cases h;done)
 ·repeat' (split at h)
  all_goals first | (cases h;trivial) | (cases h;done)
 ·cases ht
 ·repeat' (split at h)
  all_goals first | (cases h;trivial) | (cases h;done)
 ·split at h
  ·cases h;trivial
  ·cases h
 ·split at h
  ·unfold zTZ at h
   split at h
   ·split at h
    ·split at h
     ·unfold zdZ at h
      split at h
      all_goals first | (cases h;trivial) | (cases h;done)
     ·cases h
    ·cases h
   ·split at h
    ·unfold zd0 at h
     split at h
     all_goals first | (cases h;trivial) | (cases h;done)
    ·cases h
   ·split at h
    ·unfold zdz at h
     split at h
     all_goals first | (cases h;trivial) | (cases h;done)
    ·cases h
   ·cases h
  ·cases h
 ·cases h
theorem zYW {op:BinOp} {t:TypeId} {x y d:DV} {vc:Prop} (h:zdC P op t x y=some (d,vc)):vc:=by
 unfold zdC at h
 split at h
 ·split at h
  all_goals first | (cases h;trivial) | (cases h;done)
 ·split at h
  all_goals first | (cases h;trivial) | (cases h;done)
 ·cases h
theorem zTn {op:Op} {d:DV} {vc:Prop} (h:zcp P S op=some (d,vc)) (ht:zOa S op=true):vc:=by
 unfold zcp at h
 split at h
 ·unfold zdY at h
  repeat' (split at h)
  all_goals first | (cases h;trivial) | (cases h;done)
 ·cases ht
 ·unfold zdh at h
  repeat' (split at h)
  all_goals first | (cases h;trivial) | (cases h;done)
 ·cases ht
 ·split at h
  ·rename_i r hr
   cases h
   exact zYW hr
  ·exact zS0 h ht
 ·exact zS0 h ht
theorem zE7 (R:Rel P Γ N S ρ a w) {ops:Array Oper} {co:List (Nat×DV)} {o:Oper} {S':St} {vs:List Prop} {co':List (Nat×DV)} (h:zXI P ops S co o=some (S',vs,co')) (hv:zDk vs):
 S'.h=S.h∧((Region.wanted o (yielded ops a.tmps)=true∧∃ v,(∀ W,Keep N w W→(execOp a.eval o).run P W= .ok (.value v) W)∧Rel P Γ N S' ρ (a.put o.dst v) w)∨(Region.wanted o (yielded ops a.tmps)=false∧Rel P Γ N S' ρ (a.put o.dst undef) w)):=by
 unfold zXI at h
 split at h
 ·cases h
 ·rename_i hw
  cases h
  exact ⟨rfl,.inr ⟨zBD R hw,zDL R _ zNK⟩⟩
 ·rename_i hw
  split at h
  ·cases h
  ·rename_i d vc hp
   split at h
   rename_i d' vs' co'' hco
   cases h
   have hvc:vc∧zDk vs':=by
    by_cases ht:zOa S o.op=true
    ·rw [if_pos ht] at hv;exact ⟨zTn hp ht,hv⟩
    ·rw [if_neg ht] at hv;exact hv
   obtain ⟨v,g1,g2⟩:=zUY R o hp hvc.1
   exact ⟨rfl,.inl ⟨zBD R hw,v,g1,zDL R _ (zLs hco hvc.2 g2)⟩⟩
theorem zGT {ops:Array Oper} {Q:Act→Prop}: ∀ (l:List Oper) {S:St} {a:Act} {co:List (Nat×DV)} {S':St} {vs:List Prop} {co':List (Nat×DV)},Rel P Γ N S ρ a w→zco P ops l S co=some (S',vs,co')→zDk vs→
 (∀ a',S'.h=S.h→Rel P Γ N S' ρ a' w→a'.defers=a.defers→Q a')→wpQuiet P ops (fun w'=>∃ x:zY0 w,w'=x.W) Q l a
 | [],S,a,co,S',vs,co',R,h,_,hQ=>by
  cases h
  exact hQ a rfl R rfl
 | o::rest,S,a,co,S',vs,co',R,h,hv,hQ=>by
  simp only [zco] at h
  split at h
  ·cases h
  ·rename_i S1 vs1 co1 h1
   split at h
   ·cases h
   ·rename_i S2 vs2 co2 h2
    cases h
    obtain ⟨hv1,hv2⟩:=zAO.1 hv
    obtain ⟨e1,hs⟩:=zE7 R h1 hv1
    unfold wpQuiet
    have hdef: ∀ v,(a.put o.dst v).defers=a.defers:=fun v=>by cases ho:o.dst <;> simp [Act.put]
    rcases hs with ⟨hw,v,g1,g2⟩ | ⟨hw,g2⟩
    ·rw [if_pos hw]
     refine ⟨v,?_,zGT rest g2 h2 hv2 fun a' q1 q2 q3=>hQ a' (q1.trans e1) q2 (q3.trans (hdef v))⟩
     rintro W ⟨x,rfl⟩
     unfold Oper.quietAt
     rw [g1 x.W (Keep.ofExt x.le)]
     exact ⟨rfl,rfl⟩
    ·rw [if_neg (by rw [hw];exact Bool.false_ne_true)]
     exact zGT rest g2 h2 hv2 fun a' q1 q2 q3=>hQ a' (q1.trans e1) q2 (q3.trans (hdef undef))
theorem zBs.append {M:Nat→Prop} {l l':List DV} {t t':Array Value} (h:zBs M w ρ l t) (h':zBs M w ρ l' t'):zBs M w ρ (l++l') (t++t'):=by
 refine ⟨by simp [h.1,h'.1],fun i hi=>?_⟩
 rcases Nat.lt_or_ge i l.length with hl | hl
 ·have:=h.2 i hl
  have ht:i<t.size:=by rw [←h.1];exact hl
  simp only [List.getD_eq_getElem?_getD,Array.getD_eq_getD_getElem?] at this ⊢
  rw [List.getElem?_append_left hl,Array.getElem?_append_left ht]
  exact this
 ·have hi':i-l.length<l'.length:=by simp at hi;omega
  have:=h'.2 _ hi'
  have ht:t.size≤i:=by rw [←h.1];exact hl
  simp only [List.getD_eq_getElem?_getD,Array.getD_eq_getD_getElem?] at this ⊢
  rw [List.getElem?_append_right hl,Array.getElem?_append_right ht,←h.1]
  exact this
theorem zPB {g:Nat} {args:Array Value} {fn:Func} (hfn:P.funcs[g]? =some fn) (hname:fn.name≠ "runtime.NumGoroutine") (hbody:fn.body.isSome=true):(callFunc g args).run P w= .ok (.enter g args) w:=by
 have hnb:fn.body.isNone=false:=by cases hb:fn.body <;> simp [hb] at hbody ⊢
 have hnm:(fn.name== "runtime.NumGoroutine")=false:=by simpa using hname
 unfold callFunc
 rw [Sem.run_bind,show Sem.run P program w= .ok P w from rfl]
 simp only [Result.andThen,hfn,hnm,hnb,Bool.false_eq_true,if_false]
 rfl
theorem zYo (R:Rel P Γ N S ρ a w) {c:Call} {f:Operand} {g m:Nat} {cap:Nat→DV} {d:DV} {h':DH} {ext:Bool} (o:Oper) (ho:o.op= .call c) (hc:c.callee= .value f) (hf:opd S.fr f= .fn g m cap)
 (hE:ES P Γ g (c.args.toList.map (opd S.fr)++(List.range m).map cap) S.h d h' ext):zDl P (execOp a.eval o) w (Got P Γ N S.h ρ w ext d h'):=by
 obtain ⟨⟨fn,hfn,hname,hbody⟩,hE⟩:=hE
 have hr:=zAX R f
 rw [hf] at hr
 obtain ⟨lb,hv,hs,hcap⟩:=hr
 refine .inr (.inr ⟨g,c.args.map a.eval++lb,w,?_,hE N ρ w _ R.hr (zBs.append ⟨by simp,fun i hi=>?_⟩ ⟨by simp [hs],fun i hi=>?_⟩)⟩)
 ·unfold execOp
  rw [ho]
  show ((resolve a.eval c o.type)>>=fun d=>invoke d.target d.args).run P w=_
  unfold resolve
  rw [hc]
  simp only [Deferred.ofValue,hv]
  have he:((pure { target:=.fn (.func g) lb,args:=#[]++Array.map a.eval c.args }:Sem Deferred)>>=fun d=>invoke d.target d.args).run P w=(callFunc g (#[]++Array.map a.eval c.args++lb)).run P w:=rfl
  rw [he,zPB hfn hname hbody]
  simp
 ·have hi':i<c.args.size:=by simpa using hi
  have:=zAX R c.args[i]
  simp [hi',this]
 ·have hi':i<m:=by simpa using hi
  obtain ⟨u,g1,g2⟩:=hcap i hi'
  simp [hi',g1,g2]
theorem zI7 (R:Rel P Γ N S ρ a w) {calls:List (DV×DH×Bool)} {o:Oper} {d:DV} {h':DH} {vs:List Prop} {ext:Bool} {calls':List (DV×DH×Bool)} (h:zcW P Γ S calls o.op=some (d,h',vs,ext,calls')) (hv:zDk vs):
 zDl P (execOp a.eval o) w (Got P Γ N S.h ρ w ext d h'):=by
 unfold zcW at h
 split at h
 ·rename_i t x ho
  split at h
  ·rename_i l hl
   cases h
   exact zcM R hl o ho true
  ·cases h
 ·rename_i t ho
  split at h
  ·rename_i i hi
   split at h
   ·rename_i z hz
    split at h
    ·rename_i hzb
     cases h
     exact zL4 R hi hz hzb o ho true
    ·cases h
     exact zYv R hi hz o ho true
   ·cases h
  ·cases h
 ·rename_i t len parts ho
  split at h
  ·rename_i k e i z hk
   split at h
   ·rename_i hc
    simp only [Bool.and_eq_true,decide_eq_true_eq] at hc
    split at h
    ·rename_i ob hb
     cases h
     exact zMI R hk hc.1 hc.2 hb o ho true
    ·cases h
   ·cases h
  ·cases h
 ·rename_i t x y ho
  split at h
  ·rename_i n e i hT
   split at h
   ·rename_i k1 m k2 m' hx hy
    cases h
    obtain ⟨⟨rfl,v1,v2⟩,_⟩:=hv
    exact zPz R hT hx hy ⟨v1,v2⟩ o ho true
   ·cases h
  split at h
  ·rename_i k e i z hk
   split at h
   ·rename_i hby
    split at h
    ·rename_i k1 n k2 n' hx hy
     cases h
     obtain ⟨⟨rfl,v1,v2⟩,_⟩:=hv
     exact zN9 R hk hx hy ⟨v1,v2⟩ (by simpa using hby) o ho true
    ·cases h
   ·cases h
  ·cases h
 ·rename_i t x y ho
  split at h
  ·rename_i h1 vc hs
   cases h
   exact zJJ R hs hv.1 o ho
  ·cases h
 ·rename_i c ho
  split at h
  ·rename_i hc
   split at h
   ·rename_i x y ha
    split at h
    ·rename_i t t' ht
     split at h
     ·rename_i e
      subst e
      split at h
      ·rename_i d1 h1 vc hap
       cases h
       exact zOV R hap hv.1 o ho hc ha ht
      ·cases h
     ·cases h
    ·cases h
   ·cases h
  ·rename_i f hc
   split at h
   ·rename_i g m cap d1 h1 ext1 rest hf
    cases h
    exact zYo R o ho hc hf hv.1
   ·cases h
  ·cases h
 ·split at h
  ·rename_i hm
   cases h
   exact zUc R o hm hv
  ·cases h
theorem zEX (hF:FOk F P) {o:Oper} (hd: ∀ c,o.op≠.defer c) {G:Value→World→Prop} (h:zDl P (execOp a.eval o) w G) {K:Act→World→Prop} {Q:Exit→Act→World→Prop} (hK: ∀ v w',G v w'→K (a.put o.dst v) w'):o.wpIn F 0 P a w K Q:=by
 refine ⟨fun f _=>hF.fn f,?_⟩
 rw [Oper.semAt_eq _ _ _ hd]
 rcases h with ⟨v,w',h1,h2⟩ | ⟨w',h1,h2⟩ | ⟨f,args,w',h1,h2⟩
 ·rw [h1];exact hK v w' h2
 ·rw [h1];exact hK undef w' h2
 ·rw [h1]
  refine ⟨fun hx=>(by rw [hF.dep] at hx;cases hx),(hF.calls h2).mono ?_⟩
  rintro e w'' ⟨v,rfl,hG⟩
  exact hK v w'' hG
theorem zYL (R:Rel P Γ N S ρ a w) {d d':DV} {h':DH} {ext:Bool} {v:Value} {w':World} (dst:Option Nat) (G:Got P Γ N S.h ρ w ext d h' v w') (hd: ∀ M ρ',zAU M w' d ρ' v→zAU M w' d' ρ' v):
 ∃ ρ',Rel P Γ N ⟨zVj S.fr dst d',h'⟩ ρ' (a.put dst v) w'∧zGJ S.h ρ w h' ρ' w':=by
 obtain ⟨ρ',g1,g2,g3,g4⟩:=G.ex
 have O:zDW (MS N S.h ρ) w ρ (MS N h' ρ') w' ρ':=⟨fun b hb hm _=>g3.upd.block b hb fun hx=>hm (.inr hx),fun b hb=>hb.elim (fun h=>.inl (.inl h)) (fun h=>(g3.grow b h).imp .inr id),g4⟩
 have R':Rel P Γ N ⟨S.fr,h'⟩ ρ' a w':=⟨g1,R.fr.out O⟩
 exact ⟨ρ',zDL R' dst (hd _ _ g2),g3,g4⟩
theorem zHM (hF:FOk F P) (R:Rel P Γ N S ρ a w) {ops:Array Oper} {orc:Orc} {o:Oper} (hd: ∀ c,o.op≠.defer c) {S':St} {vs:List Prop} {ext:Bool} {orc':Orc} (h:zSC P Γ ops S orc o=some (S',vs,ext,orc')) (hv:zDk vs)
 {K:Act→World→Prop} {Q:Exit→Act→World→Prop} (hK: ∀ ρ' a' w',Rel P Γ N S' ρ' a' w'→zGJ S.h ρ w S'.h ρ' w'→a'.defers=a.defers→(ext=true→Ext w w')→K a' w'):
 if Region.wanted o (yielded ops a.tmps) then o.wpIn F 0 P a w K Q else (∀ f,o.about P w a.eval=some f→F.fn f)∧K (a.put o.dst undef) w:=by
 have hdef: ∀ v,(a.put o.dst v).defers=a.defers:=fun v=>by cases ho:o.dst <;> simp [Act.put]
 unfold zSC at h
 split at h
 ·cases h
 ·rename_i hw
  cases h
  rw [if_neg (by rw [zBD R hw];exact Bool.false_ne_true)]
  exact ⟨fun f _=>hF.fn f,hK ρ _ _ (zDL R _ zNK) (zGJ.refl _ _ _) (hdef _) fun _=>Ext.refl w⟩
 ·rename_i hw
  rw [if_pos (zBD R hw)]
  split at h
  ·rename_i S1 vs1 hM
   cases h
   exact zEX hF hd (zJI R hM hv) fun v w' ⟨⟨ρ',g1,g2⟩,_⟩=>hK ρ' _ _ g1 g2 (hdef v) fun e=>by cases e
  split at h
  ·cases h
  ·rename_i d h1 vs1 ext1 calls hact
   split at h
   rename_i d' vs' co' hco
   split at h
   ·cases h
   ·rename_i S2 vs'' fz' hfz
    cases h
    obtain ⟨hv1,hv23⟩:=zAO.1 hv
    obtain ⟨hv2,hv3⟩:=zAO.1 hv23
    refine zEX hF hd (zI7 R hact hv1) fun v w' G=>?_
    obtain ⟨ρ',g1,g2⟩:=zYL R o.dst G (d':=d') fun M ρ' hr=>zLs hco hv2 hr
    obtain ⟨g3,g4⟩:=zI0 _ hfz hv3 P Γ N ρ' _ _ g1
    exact hK ρ' _ _ g3 (g2.trans ⟨g4,fun _ _ h=>h⟩) (hdef v) G.ext
theorem zCF (hF:FOk F P) {ops:Array Oper} (hnd:zBP ops=true) {Q:Exit→Act→World→Prop}: ∀ (l:List Oper) (_: ∀ o∈l,o∈ops) {S:St} {ρ:List zAJ} {a:Act} {w:World} {orc:Orc} {S':St} {vs:List Prop} {orc':Orc},
 Rel P Γ N S ρ a w→zOI P Γ ops l S orc=some (S',vs,orc')→zDk vs→
 (∀ ρ' a' w',Rel P Γ N S' ρ' a' w'→zGJ S.h ρ w S'.h ρ' w'→a'.defers=a.defers→Q .normal a' w')→wpListIn F 0 P ops Q l a w
 | [],_,S,ρ,a,w,orc,S',vs,orc',R,h,_,hQ=>by
  cases h
  exact hQ ρ a w R (zGJ.refl _ _ _) rfl
 | o::rest,hl,S,ρ,a,w,orc,S',vs,orc',R,h,hv,hQ=>by
  have hd: ∀ c,o.op≠.defer c:=by
   obtain ⟨j,hj,e⟩:=Array.getElem_of_mem (hl o (by simp))
   exact zAu hnd (j:=j) (by rw [Array.getElem?_eq_getElem hj,e])
  have hl': ∀ o∈rest,o∈ops:=fun o ho=>hl o (by simp [ho])
  have hdef: ∀ v,(a.put o.dst v).defers=a.defers:=fun v=>by cases ho:o.dst <;> simp [Act.put]
  simp only [zOI] at h
  unfold wpListIn
  split at h
  ·split at h
   ·cases h
   ·rename_i S1 vs1 ext1 orc1 h1
    split at h
    ·cases h
    ·rename_i S2 vs2 orc2 h2
     cases h
     obtain ⟨hv1,hv2⟩:=zAO.1 hv
     exact zHM hF R hd h1 hv1 fun ρ' a' w' R' st hdf _=>zCF hF hnd rest hl' R' h2 hv2 fun ρ'' a'' w'' R'' st' hdf'=>hQ ρ'' a'' w'' R'' (st.trans st') (hdf'.trans hdf)
  ·split at h
   ·cases h
   ·rename_i S1 vs1 co1 h1
    split at h
    ·cases h
    ·rename_i S2 vs2 orc2 h2
     cases h
     obtain ⟨hv1,hv2⟩:=zAO.1 hv
     obtain ⟨e1,hs⟩:=zE7 R h1 hv1
     have go: ∀ v,Rel P Γ N S1 ρ (a.put o.dst v) w→wpListIn F 0 P ops Q rest (a.put o.dst v) w:=fun v R'=>
      zCF hF hnd rest hl' R' h2 hv2 fun ρ'' a'' w'' R'' st' hdf'=>hQ ρ'' a'' w'' R'' (by rw [←e1];exact st') (hdf'.trans (hdef v))
     rcases hs with ⟨hw,v,g1,g2⟩ | ⟨hw,g2⟩
     ·rw [if_pos hw]
      refine ⟨fun f _=>hF.fn f,?_⟩
      rw [Oper.semAt_eq _ _ _ hd,g1 w (Keep.ofExt (Ext.refl w))]
      exact go v g2
     ·rw [if_neg (by rw [hw];exact Bool.false_ne_true)]
      exact ⟨fun f _=>hF.fn f,go undef g2⟩
theorem zN3 {ops:Array Oper}: ∀ (l:List Nat),∀ o∈zBj ops l,o∈ops
 | [],o,h=>by simp [zBj] at h
 | i::l,o,h=>by
  simp only [zBj] at h
  split at h
  ·rename_i o' ho
   rcases List.mem_cons.1 h with rfl | h
   ·exact Array.mem_of_getElem? ho
   ·exact zN3 l o h
  ·exact zN3 l o h
theorem zMz (hF:FOk F P) {ops:Array Oper} (hnd:zBP ops=true) {Q:Exit→Act→World→Prop}: ∀ (steps:List (List Nat×Nat)) (last tail:List Nat) {S:St} {ρ:List zAJ} {a:Act} {w:World} {orc:Orc} {S':St} {vs:List Prop} {orc':Orc},
 (tail.all fun t=>decide (t<ops.size))=true→Rel P Γ N S ρ a w→hseq P Γ ops steps last tail S orc=some (S',vs,orc')→zDk vs→
 (∀ ρ' a' w',Rel P Γ N S' ρ' a' w'→zGJ S.h ρ w S'.h ρ' w'→a'.defers=a.defers→Q .normal a' w')→zQJ F 0 P ops Q steps last tail a w
 | [],last,tail,S,ρ,a,w,orc,S',vs,orc',ht,R,h,hv,hQ=>by
  simp only [hseq] at h
  split at h
  ·cases h
  ·rename_i S1 vs1 co1 h1
   split at h
   ·cases h
   ·rename_i S2 vs2 orc2 h2
    cases h
    obtain ⟨hv1,hv2⟩:=zAO.1 hv
    refine zRy ht (zGT _ R h1 hv1 fun a' e1 R' hdf=>?_)
    exact zCF hF hnd _ (zN3 tail) R' h2 hv2 fun ρ'' a'' w'' R'' st' hdf'=>hQ ρ'' a'' w'' R'' (by rw [←e1];exact st') (hdf'.trans hdf)
 | (seg,i)::more,last,tail,S,ρ,a,w,orc,S',vs,orc',ht,R,h,hv,hQ=>by
  simp only [hseq] at h
  split at h
  ·cases h
  ·rename_i S1 vs1 co1 h1
   split at h
   ·cases h
   ·rename_i o ho
    split at h
    ·cases h
    ·rename_i S2 vs2 ext orc2 h2
     split at h
     ·cases h
     ·split at h
      ·cases h
      ·rename_i S3 vs3 orc3 h3
       cases h
       obtain ⟨hv1,hv'⟩:=zAO.1 hv
       obtain ⟨hv2,hv3⟩:=zAO.1 hv'
       show wpQuiet _ _ _ _ _ _
       refine zGT _ R h1 hv1 fun a' e1 R' hdf=>?_
       unfold wpOpIn
       simp only [ho]
       refine zHM hF R' (zAu hnd ho) h2 hv2 fun ρ'' a'' w'' R'' st' hdf' hext=>?_
       rw [e1] at st'
       exact ⟨hext rfl,zMz hF hnd more last tail ht R'' h3 hv3 fun ρ3 a3 w3 R3 st3 hdf3=>hQ ρ3 a3 w3 R3 (st'.trans st3) (hdf3.trans (hdf'.trans hdf))⟩
end
end Go.Proofs.YtekkngkphejfcaaGreatDoor
namespace Go.Proofs.YtekkngkphejfcaaGreatDoor
open Go.RowKit
def zMK (L:Nat) (ρ ρ':List zAJ):Prop:=∀ (k:Nat) (p:zAJ),k<L→ρ[k]? =some p→ρ'[k]? =some p
theorem zMK.refl (L:Nat) (ρ:List zAJ):zMK L ρ ρ:=fun _ _ _ h=>h
theorem zMK.trans {L:Nat} {a b c:List zAJ} (h:zMK L a b) (k:zMK L b c):zMK L a c:=fun i p hi hp=>k i p hi (h i p hi hp)
structure Bd (F:Fence) (B:Option Nat) (w:World):Prop where
 le: ∀ b,B=some b→b≤w.heap.size
 rd: ∀ l,F.round=some l→∃ r,w.heap[l]? =some (.loop r)
theorem Bd.step {P:Program} {Γ:Glo} {N:Nat→Prop} {h h':DH} {ρ ρ':List zAJ} {F:Fence} {B:Option Nat} {w w':World} (b:Bd F B w) (H:zDJ P Γ N h ρ w) (st:zCH h ρ w h' ρ' w'):Bd F B w':=
 ⟨fun x e=>Nat.le_trans (b.le x e) st.upd.size,fun l hl=>by
  obtain ⟨r,hr⟩:=b.rd l hl
  refine ⟨r,(st.upd.block l (Array.getElem?_eq_some_iff.1 hr).1 ?_).trans hr⟩
  rintro ⟨k,o,p,h1,h2,h3⟩
  obtain ⟨_,_,c,t,z,h4⟩:=H.cel k o p l h1 h2 h3
  rw [hr] at h4;cases h4;cases t⟩
theorem Bd.wide {B:Nat} {w:World} (h:B≤w.heap.size):Bd Fence.wide (some B) w:=⟨fun b e=>by cases e;exact h,fun l hl=>by cases hl⟩
theorem Bd.none {w:World}:Bd Fence.wide none w:=⟨fun b e=>(by cases e),fun l hl=>by cases hl⟩
def zL6:Option Nat→List Deferred→World→Prop
 | none,ds,_=>ds= []
 | some B,ds,w=>zEC B ds w
structure zDD (P:Program) (Γ:Glo) (L:Nat) where
 I:(Nat→Prop)→DH→List zAJ→World→Prop
 st: ∀ {N:Nat→Prop} {h:DH} {ρ:List zAJ} {w:World} {h':DH} {ρ':List zAJ} {w':World},I N h ρ w→zDJ P Γ N h ρ w→zDJ P Γ N h' ρ' w'→zCH h ρ w h' ρ' w'→zMK L ρ ρ'→I N h' ρ' w'
def zOt (P:Program) (Γ:Glo) (L:Nat) (N0:Nat→Prop) (h0:DH) (ρ0:List zAJ) (w0:World):zDD P Γ L where
 I:=fun N h ρ w=>N=N0∧zCH h0 ρ0 w0 h ρ w∧zMK L ρ0 ρ
 st:=fun ⟨e,s,k⟩ _ _ st k'=>⟨e,s.trans st,k.trans k'⟩
abbrev QY (P:Program) (Γ:Glo) (L:Nat):=Exit→St→zDD P Γ L→Prop
def QE {P:Program} {Γ:Glo} {L:Nat} (Q:QY P Γ L):Exit→St→zDD P Γ L→Prop
 | .panic _,_,_=>False
 | .outgrown,_,_=>False
 | e,S,Y=>Q e S Y
def Tr (P:Program) (Γ:Glo) (F:Fence) (B:Option Nat) (L:Nat) (Y:zDD P Γ L) (c:Code) (S:St) (Q:QY P Γ L):Prop:=
 ∀ N ρ a w,Rel P Γ N S ρ a w→Y.I N S.h ρ w→zL6 B a.defers w→Bd F B w→
  c.wpIn F 0 P (fun e a' w'=>∃ S' ρ' N' Y',QE Q e S' Y'∧Rel P Γ N' S' ρ' a' w'∧Y'.I N' S'.h ρ' w'∧zL6 B a'.defers w'∧Bd F B w') a w
def SLe (L:Nat) (S S':St):Prop:=∀ P Γ N ρ a w,Rel P Γ N S ρ a w→∃ ρ',Rel P Γ N S' ρ' a w∧zCH S.h ρ w S'.h ρ' w∧zMK L ρ ρ'
theorem SLe.refl (L:Nat) (S:St):SLe L S S:=fun _ _ _ ρ _ _ R=>⟨ρ,R,zCH.refl _ _ _,zMK.refl _ _⟩
theorem SLe.trans {L:Nat} {A B C:St} (h:SLe L A B) (k:SLe L B C):SLe L A C:=fun P Γ N ρ a w R=>by
 obtain ⟨ρ1,R1,s1,k1⟩:=h P Γ N ρ a w R
 obtain ⟨ρ2,R2,s2,k2⟩:=k P Γ N ρ1 a w R1
 exact ⟨ρ2,R2,s1.trans s2,k1.trans k2⟩
section
variable {P:Program} {Γ:Glo} {N:Nat→Prop} {S:St} {F:Fence} {B:Option Nat} {L:Nat} {Y:zDD P Γ L} {Q Q':QY P Γ L}
theorem QE.mono (h: ∀ e S Y,Q e S Y→Q' e S Y) {e:Exit} {S:St} (hq:QE Q e S Y):QE Q' e S Y:=by
 cases e <;> first | exact hq | exact h _ _ _ hq
theorem Tr.mono {c:Code} (h:Tr P Γ F B L Y c S Q) (hq: ∀ e S Y,Q e S Y→Q' e S Y):Tr P Γ F B L Y c S Q':=fun N ρ a w R y m b=>
 wpIn_mono (h N ρ a w R y m b) fun _ _ _ ⟨S',ρ',N',Y',h1,h2⟩=>⟨S',ρ',N',Y',h1.mono hq,h2⟩
theorem Tr.weaken {c:Code} {S':St} (hS:SLe L S S') (h:Tr P Γ F B L Y c S' Q):Tr P Γ F B L Y c S Q:=fun N ρ a w R y m b=>by
 obtain ⟨ρ1,R1,s1,k1⟩:=hS P Γ N ρ a w R
 exact h N ρ1 a w R1 (Y.st y R.hr R1.hr s1 k1) m b
theorem zES {ρ ρ':List zAJ} {h':DH} {ds:List Deferred} {w w':World} (H:zDJ P Γ N S.h ρ w) (st:zCH S.h ρ w h' ρ' w') (m:zL6 B ds w):zL6 B ds w':=by
 cases B with
 | none=>exact m
 | some B=>
 refine zEC.upd st.upd m fun k _ hk e=>?_
 obtain ⟨i,o,p,h1,h2,h3⟩:=hk
 obtain ⟨_,_,c,t,z,h4⟩:=H.cel i o p k h1 h2 h3
 rw [h4] at e;cases e;cases t
theorem Tr.skip (h:Q .normal S Y):Tr P Γ F B L Y .skip S Q:=fun N ρ _ _ R y m b=>wpIn_skip ⟨S,ρ,N,Y,h,R,y,m,b⟩
theorem Tr.ret (h:Q .ret S Y):Tr P Γ F B L Y .ret S Q:=fun N ρ _ _ R y m b=>wpIn_ret ⟨S,ρ,N,Y,h,R,y,m,b⟩
theorem Tr.exit {id:Nat} (h:Q (.exit id) S Y):Tr P Γ F B L Y (.exit id) S Q:=fun N ρ _ _ R y m b=>wpIn_exit ⟨S,ρ,N,Y,h,R,y,m,b⟩
def zVs (K:St→zDD P Γ L→Prop) (Q:QY P Γ L):QY P Γ L
 | .normal,S,Y=>K S Y
 | e,S,Y=>Q e S Y
theorem Tr.seq {x y:Code} (h:Tr P Γ F B L Y x S (zVs (fun S' Y'=>Tr P Γ F B L Y' y S' Q) Q)):Tr P Γ F B L Y (.seq x y) S Q:=fun N ρ a w R y m b=>by
 refine wpIn_seq (wpIn_mono (h N ρ a w R y m b) ?_)
 rintro e a' w' ⟨S',ρ',N',Y',h1,h2,h3,h4,h5⟩
 cases e with
 | normal=>exact h1 N' ρ' a' w' h2 h3 h4 h5
 | ret=>exact ⟨S',ρ',N',Y',h1,h2,h3,h4,h5⟩
 | exit id=>exact ⟨S',ρ',N',Y',h1,h2,h3,h4,h5⟩
 | goto t=>exact ⟨S',ρ',N',Y',h1,h2,h3,h4,h5⟩
 | panic c=>exact h1.elim
 | outgrown=>exact h1.elim
theorem Tr.cond {c:Operand} {x y:Code} {b:Bool} (hc:opd S.fr c= .bool b) (h1:b=true→Tr P Γ F B L Y x S Q) (h2:b=false→Tr P Γ F B L Y y S Q):Tr P Γ F B L Y (.cond c x y) S Q:=fun N ρ a w R y m bb=>by
 have hr:=zAX R c
 rw [hc] at hr
 refine wpIn_cond (t:=b) hr ?_
 cases b
 ·exact h2 rfl N ρ a w R y m bb
 ·exact h1 rfl N ρ a w R y m bb
theorem zTk {F:Fence} {n:Nat} {P:Program} {Q:Exit→Act→World→Prop} {a:Act} {w:World} {c:Code} (h:c.wpIn F n P (Exit.noGoto Q) a w):(Code.scope c).wpIn F n P Q a w:=by
 intro b k cs hro hb hr
 have h0:(lone (b.atR a (.code (.scope c)::k)) cs w).fenced P F:=fenced_calm hb hr rfl
 have s0:step P (lone (b.atR a (.code (.scope c)::k)) cs w)= .next (lone (b.atR a (.code c:: .inScope c::k)) cs w):=step_lone_go (by simp [stepG,stepG.exec,Frame.atR])
 obtain ⟨e,a₁,w₁,hq,harr⟩:=h b (.inScope c::k) cs hro hb hr
 have s1:step P (lone (b.atR a₁ (.inScope c::k)) cs w₁)= .next (lone (b.atR a₁ k) cs w₁):=step_lone_go (by simp [stepG,stepG.exec,Frame.atR])
 cases e with
 | normal=>exact ⟨.normal,a₁,w₁,hq,.head h0 s0 (StepsIn.trans harr (.one (fenced_calm hb hr rfl) s1))⟩
 | exit id=>exact ⟨.exit id,a₁,w₁,hq,fun k' hk=>.head h0 s0 (harr.1 k' hk),fun hr' hk=>let ⟨k₁,h1,h2⟩:=harr.2 hr' hk;⟨k₁,h1,.head h0 s0 h2⟩⟩
 | goto l=>exact hq.elim
 | ret=>exact ⟨_,a₁,w₁,hq,.of_steps (.one h0 s0) harr⟩
 | panic ch=>exact ⟨_,a₁,w₁,hq,.of_steps (.one h0 s0) harr⟩
 | outgrown=>exact ⟨_,a₁,w₁,hq,.of_steps (.one h0 s0) harr⟩
def zeS (Q:QY P Γ L):QY P Γ L
 | .goto _,_,_=>False
 | e,S,Y=>Q e S Y
theorem Tr.scope {c:Code} (h:Tr P Γ F B L Y c S (zeS Q)):Tr P Γ F B L Y (.scope c) S Q:=fun N ρ a w R y m b=>by
 refine zTk (wpIn_mono (h N ρ a w R y m b) ?_)
 rintro e a' w' ⟨S',ρ',N',Y',h1,h2⟩
 cases e with
 | goto l=>exact h1.elim
 | _=>exact ⟨S',ρ',N',Y',h1,h2⟩
theorem Tr.label {l:Nat} (h:Q .normal S Y):Tr P Γ F B L Y (.label l) S Q:=fun N ρ a w R y m b=>wpIn_label ⟨S,ρ,N,Y,h,R,y,m,b⟩
def zdG (id:Nat) (Q:QY P Γ L):QY P Γ L
 | .exit i,S,Y=>if i=id then Q .normal S Y else Q (.exit i) S Y
 | e,S,Y=>Q e S Y
theorem Tr.block {id:Nat} {c:Code} (h:Tr P Γ F B L Y c S (zdG id Q)):Tr P Γ F B L Y (.block id c) S Q:=fun N ρ a w R y m b=>by
 refine wpIn_block (wpIn_mono (h N ρ a w R y m b) ?_)
 rintro e a' w' ⟨S',ρ',N',Y',h1,h2⟩
 cases e with
 | exit i=>
  show if i=id then _ else _
  by_cases e:i=id
  ·rw [if_pos e]
   have h1:(if i=id then Q .normal S' Y' else Q (.exit i) S' Y'):=h1
   rw [if_pos e] at h1
   exact ⟨S',ρ',N',Y',h1,h2⟩
  ·rw [if_neg e]
   have h1:(if i=id then Q .normal S' Y' else Q (.exit i) S' Y'):=h1
   rw [if_neg e] at h1
   exact ⟨S',ρ',N',Y',h1,h2⟩
 | normal=>exact ⟨S',ρ',N',Y',h1,h2⟩
 | ret=>exact ⟨S',ρ',N',Y',h1,h2⟩
 | goto t=>exact ⟨S',ρ',N',Y',h1,h2⟩
 | panic c=>exact h1.elim
 | outgrown=>exact h1.elim
theorem Tr.loop {c:Code} (I:Nat→St→zDD P Γ L→Prop) (n:Nat) (h0:I n S Y) (h: ∀ n S Y,I n S Y→Tr P Γ F B L Y c S (zVs (fun S' Y'=>∃ n',n'<n∧I n' S' Y') Q)):Tr P Γ F B L Y (.loop c) S Q:=fun N ρ a w R y m b=>by
 refine wpIn_loop_ghost (fun k a' w'=>∃ S' ρ' N' Y',I k S' Y'∧Rel P Γ N' S' ρ' a' w'∧Y'.I N' S'.h ρ' w'∧zL6 B a'.defers w'∧Bd F B w') n ⟨S,ρ,N,Y,h0,R,y,m,b⟩ ?_
 rintro k a' w' ⟨S',ρ',N',Y',h1,h2,h3,h4,h5⟩
 refine wpIn_mono (h k S' Y' h1 N' ρ' a' w' h2 h3 h4 h5) ?_
 rintro e a2 w2 ⟨S2,ρ2,N2,Y2,g1,g2,g3,g4,g5⟩
 cases e with
 | normal=>
  obtain ⟨n',hlt,hI⟩:=g1
  exact ⟨n',hlt,S2,ρ2,N2,Y2,hI,g2,g3,g4,g5⟩
 | ret=>exact ⟨S2,ρ2,N2,Y2,g1,g2,g3,g4,g5⟩
 | exit id=>exact ⟨S2,ρ2,N2,Y2,g1,g2,g3,g4,g5⟩
 | goto t=>exact ⟨S2,ρ2,N2,Y2,g1,g2,g3,g4,g5⟩
 | panic c=>exact g1.elim
 | outgrown=>exact g1.elim
theorem Rel.ext {ρ:List zAJ} {a:Act} {w w':World} (R:Rel P Γ N S ρ a w) (hE:Ext w w'):Rel P Γ N S ρ a w':=⟨R.hr.ext hE,R.fr.out (zDW.ext ρ hE)⟩
theorem Tr.done {S':St} {e:Exit} {ρ ρ':List zAJ} {a a':Act} {w w':World} (R:Rel P Γ N S ρ a w) (y:Y.I N S.h ρ w) (m:zL6 B a.defers w) (b:Bd F B w) (hk:QE Q e S' Y) (R':Rel P Γ N S' ρ' a' w') (st:zCH S.h ρ w S'.h ρ' w') (hkp:zMK L ρ ρ') (hdf:a'.defers=a.defers):
 ∃ S' ρ' N' Y',QE Q e S' Y'∧Rel P Γ N' S' ρ' a' w'∧Y'.I N' S'.h ρ' w'∧zL6 B a'.defers w'∧Bd F B w':=
 ⟨S',ρ',N,Y,hk,R',Y.st y R.hr R'.hr st hkp,by rw [hdf];exact zES R.hr st m,b.step R.hr st⟩
theorem SLe.fr {fr fr':List DV} {h:DH} (hl:fr'.length=fr.length) (hd: ∀ i,i<fr.length→DLe (fr.getD i .any) (fr'.getD i .any)):SLe L ⟨fr,h⟩ ⟨fr',h⟩:=fun P Γ N ρ a w R=>
 ⟨ρ,⟨R.hr,⟨by rw [hl];exact R.fr.1,fun i hi=>hd i (by rw [←hl];exact hi) _ _ _ _ (R.fr.2 i (by rw [←hl];exact hi))⟩⟩,zCH.refl _ _ _,zMK.refl _ _⟩
theorem DLe.refl (d:DV):DLe d d:=fun _ _ _ _ h=>h
theorem DLe.any (d:DV):DLe d .any:=fun _ _ _ _ _=>trivial
theorem DLe.int {k:IntKind} {a b:Int} (h:a=b):DLe (.int k a) (.int k b):=by rw [h];exact DLe.refl _
theorem DLe.bool {a b:Bool} (h:a=b):DLe (.bool a) (.bool b):=by rw [h];exact DLe.refl _
theorem DLe.ints_nil:DLe .nils (.ints []):=fun M w ρ v h=>⟨none,0,h,Nat.le_refl _,Nat.zero_le _,fun j hj=>absurd hj (Nat.not_lt_zero j)⟩
theorem DLe.sl_nil (m:Nat) (f:Nat→Nat→DV):DLe .nils (.sl m 0 f):=fun M w ρ v h=>⟨none,0,h,Nat.le_refl _,Nat.zero_le _,fun i j hi=>absurd hi (Nat.not_lt_zero i)⟩
def forget (live:List Nat) (fr:List DV):List DV:=(fr.zipIdx).map fun x=>if live.contains x.2 then x.1 else .any
theorem zOL (live:List Nat) (fr:List DV):(forget live fr).length=fr.length:=by simp [forget]
theorem zVN (live:List Nat) (fr:List DV) {i:Nat} (hi:i<fr.length):(forget live fr).getD i .any=if live.contains i then fr.getD i .any else .any:=by
 simp [forget,hi]
theorem SLe.forget (live:List Nat) (fr:List DV) (h:DH):SLe L ⟨fr,h⟩ ⟨forget live fr,h⟩:=SLe.fr (zOL _ _) fun i hi=>by
 rw [zVN live fr hi]
 split
 ·exact DLe.refl _
 ·exact DLe.any _
def zKp:List Nat→Nat→Option Nat
 | [],_=>none
 | x::σ,k=>if x=k then some 0 else (zKp σ k).map (· +1)
def ren (σ:List Nat):DV→DV
 | .ref k j=>match zKp σ k with
  | some k'=>.ref k' j
  | none=>.any
 | .mse k m off n=>match zKp σ k with
  | some k'=>.mse k' m off n
  | none=>.any
 | .mri k i=>match zKp σ k with
  | some k'=>.mri k' i
  | none=>.any
 | .msl k m off n=>match zKp σ k with
  | some k'=>.msl k' m off n
  | none=>.any
 | .mp k m i j=>match zKp σ k with
  | some k'=>.mp k' m i j
  | none=>.any
 | .it k=>match zKp σ k with
  | some k'=>.it k'
  | none=>.any
 | .agg m f=>.agg m fun j=>((List.range m).map fun i=>ren σ (f i)).getD j .any
 | .tup m f=>.tup m fun j=>((List.range m).map fun i=>ren σ (f i)).getD j .any
 | .fn g m c=>.fn g m fun j=>((List.range m).map fun i=>ren σ (c i)).getD j .any
 | d=>d
def zdR (σ:List Nat):Option DO→Option DO
 | some (.cells l)=>some (.cells (l.map (ren σ)))
 | o=>o
def zBJ (σ:List Nat) (S:St):St:=⟨S.fr.map (ren σ),σ.map fun k=>zdR σ (S.h.getD k none)⟩
theorem zCQ: ∀ {σ:List Nat} {k k':Nat},zKp σ k=some k'→σ[k']? =some k
 | [],_,_,h=>by cases h
 | x::σ,k,k',h=>by
  unfold zKp at h
  split at h
  ·rename_i e;cases h;subst e;rfl
  ·cases hr:zKp σ k with
   | none=>rw [hr] at h;cases h
   | some i=>
    rw [hr] at h
    have e:k'=i+1:=(Option.some.inj h).symm
    subst e
    have:=zCQ hr
    simpa using this
theorem zUH {f:Nat→DV} {m j:Nat} (hj:j<m):((List.range m).map f).getD j .any=f j:=by simp [hj]
theorem zKu {M:Nat→Prop} {w:World} {ρ:List zAJ} {f:Nat→DV} {m j:Nat} {u:Value} (hj:j<m) (h:zAU M w (f j) ρ u):zAU M w (((List.range m).map f).getD j .any) ρ u:=by rw [zUH hj];exact h
theorem zbp {M M':Nat→Prop} {w:World} {σ:List Nat} {ρ ρ':List zAJ} (hM: ∀ b,M' b→M b) (hρ: ∀ (k k':Nat) (p:zAJ),σ[k']? =some k→ρ[k]? =some p→ρ'[k']? =some p): ∀ (d:DV) {v:Value},zAU M w d ρ v→zAU M' w (ren σ d) ρ' v:=by
 have low: ∀ (d:DV) {v:Value},zAU M w d [] v→zAU M' w d [] v:=fun d v h=>h.out d ⟨fun _ _ _ _=>rfl,fun b hb=>.inl (hM b hb),fun k p hk=>by simp at hk⟩
 intro d
 induction d with
 | any=>intro v _;trivial
 | nils=>intro v h;exact h
 | int k n=>intro v h;exact h
 | bool b=>intro v h;exact h
 | str s=>intro v h;exact h
 | ints l=>intro v h;exact low (.ints l) h
 | bools l=>intro v h;exact low (.bools l) h
 | sl m n f _=>intro v h;exact low (.sl m n f) h
 | fp m f _=>intro v h;exact low (.fp m f) h
 | agg m f ih=>
  rintro v ⟨cs,e,hs,h⟩
  exact ⟨cs,e,hs,fun j hj=>let ⟨u,h1,h2⟩:=h j hj;⟨u,h1,zKu hj (ih j h2)⟩⟩
 | tup m f ih=>
  rintro v ⟨cs,e,hs,h⟩
  exact ⟨cs,e,hs,fun j hj=>let ⟨u,h1,h2⟩:=h j hj;⟨u,h1,zKu hj (ih j h2)⟩⟩
 | fn g m c ih=>
  rintro v ⟨cs,e,hs,h⟩
  exact ⟨cs,e,hs,fun j hj=>let ⟨u,h1,h2⟩:=h j hj;⟨u,h1,zKu hj (ih j h2)⟩⟩
 | ref k j=>
  rintro v ⟨p,hp,e⟩
  simp only [ren]
  cases hk:zKp σ k with
  | none=>trivial
  | some k'=>exact ⟨p,hρ k k' p (zCQ hk) hp,e⟩
 | msl k m off n=>
  rintro v ⟨p,cap,hp,r⟩
  simp only [ren]
  cases hk:zKp σ k with
  | none=>trivial
  | some k'=>exact ⟨p,cap,hρ k k' p (zCQ hk) hp,r⟩
 | mp k m i j=>
  rintro v ⟨p,hp,e⟩
  simp only [ren]
  cases hk:zKp σ k with
  | none=>trivial
  | some k'=>exact ⟨p,hρ k k' p (zCQ hk) hp,e⟩
 | yl l=>intro v h;exact h
 | cst u=>intro v h;exact h
 | mse k m off n=>
  rintro v ⟨p,a,cap,hp,r⟩
  simp only [ren]
  cases hk:zKp σ k with
  | none=>trivial
  | some k'=>exact ⟨p,a,cap,hρ k k' p (zCQ hk) hp,r⟩
 | mri k i=>
  rintro v ⟨p,vs,hp,r⟩
  simp only [ren]
  cases hk:zKp σ k with
  | none=>trivial
  | some k'=>exact ⟨p,vs,hρ k k' p (zCQ hk) hp,r⟩
 | it k=>
  rintro v ⟨p,hp,e⟩
  simp only [ren]
  cases hk:zKp σ k with
  | none=>trivial
  | some k'=>exact ⟨p,hρ k k' p (zCQ hk) hp,e⟩
def zXY:zAJ:=⟨0,0,0,undef,fun _=>False⟩
theorem SLe.compact (σ:List Nat) (S:St) (h1:σ.Nodup) (h2: ∀ k∈σ,k<S.h.length) (h3: ∀ k,k<L→σ[k]? =some k):SLe L S (zBJ σ S):=fun P Γ N ρ a w R=>by
 obtain ⟨ρ',hρ'⟩: ∃ ρ',ρ'=σ.map fun k=>ρ.getD k zXY:=⟨_,rfl⟩
 have get: ∀ {k':Nat} {p:zAJ},ρ'[k']? =some p→∃ k,σ[k']? =some k∧ρ[k]? =some p:=fun {k' p} h=>by
  rw [hρ',List.getElem?_map] at h
  cases hk:σ[k']? with
  | none=>rw [hk] at h;cases h
  | some k=>
   rw [hk] at h
   have hlt:k<ρ.length:=by rw [R.hr.len];exact h2 k (List.mem_of_getElem? hk)
   refine ⟨k,rfl,?_⟩
   simp [hlt] at h
   simp [hlt,h]
 have put: ∀ (k k':Nat) (p:zAJ),σ[k']? =some k→ρ[k]? =some p→ρ'[k']? =some p:=fun k k' p hk hp=>by
  rw [hρ',List.getElem?_map,hk]
  simp [List.getD_eq_getElem?_getD,hp]
 have hget: ∀ {k':Nat} {o':DO},(zBJ σ S).h[k']? =some (some o')→∃ k o,σ[k']? =some k∧S.h[k]? =some (some o)∧zdR σ (some o)=some o':=fun {k' o'} h=>by
  show ∃ k o,_
  have h:(σ.map fun k=>zdR σ (S.h.getD k none))[k']? =some (some o'):=h
  rw [List.getElem?_map] at h
  cases hk:σ[k']? with
  | none=>rw [hk] at h;cases h
  | some k=>
   rw [hk] at h
   have hlt:k<S.h.length:=h2 k (List.mem_of_getElem? hk)
   have h:zdR σ (S.h.getD k none)=some o':=Option.some.inj h
   have e:S.h.getD k none=S.h[k]:=by simp [hlt]
   rw [e] at h
   cases ho:S.h[k] with
   | none=>rw [ho] at h;cases h
   | some o=>rw [ho] at h;exact ⟨k,o,rfl,by simp [hlt,ho],h⟩
 have hM: ∀ b,MO (zBJ σ S).h ρ' b→MO S.h ρ b:=by
  rintro b ⟨k',o',p,g1,g2,g3⟩
  obtain ⟨k,o,e1,e2,_⟩:=hget g1
  obtain ⟨k2,e3,e4⟩:=get g2
  have:k2=k:=Option.some.inj (e3.symm.trans e1)
  subst this
  exact ⟨k2,o,p,e2,e4,g3⟩
 have hMS: ∀ b,MS N (zBJ σ S).h ρ' b→MS N S.h ρ b:=fun b hb=>hb.imp id (hM b)
 have O:zDW (MS N S.h ρ) w [] (MS N (zBJ σ S).h ρ') w []:=⟨fun _ _ _ _=>rfl,fun b hb=>.inl (hMS b hb),fun k p hk=>by simp at hk⟩
 have low: ∀ (d:DV) {v:Value},zAU (MS N S.h ρ) w d ρ v→zAU (MS N (zBJ σ S).h ρ') w (ren σ d) ρ' v:=fun d v h=>zbp hMS put d h
 refine ⟨ρ',⟨⟨by simp [hρ',zBJ],fun k' o' hk'=>?_,fun k' o' p b g1 g2 g3=>?_,fun i i' o1 o2 p1 p2 b hne g1 g2 g3 g4 g5 g6=>?_,R.hr.nlt,R.hr.gi⟩,⟨by simp [zBJ,R.fr.1],fun i hi=>?_⟩⟩,⟨Upd.refl _ w,fun b hb=>.inl (hM b hb)⟩,fun k p hk hp=>put k k p (h3 k hk) hp⟩
 ·obtain ⟨k,o,e1,e2,e3⟩:=hget hk'
  obtain ⟨p,hp,hr⟩:=R.hr.obj k o e2
  refine ⟨p,put k k' p e1 hp,?_⟩
  cases o with
  | cells l=>
   cases e3
   show zAP w p (l.map (ren σ)).length _
   rw [List.length_map]
   refine zAP.out hr rfl fun j u hj hu=>?_
   have:(l.map (ren σ)).getD j .any=ren σ (l.getD j .any):=by simp [hj]
   rw [this];exact low _ hu
  | ints l=>cases e3;exact zAP.out hr rfl fun j u _ hu=>hu
  | bools l=>cases e3;exact zAP.out hr rfl fun j u _ hu=>hu
  | arr m n f=>cases e3;exact zAP.out hr rfl fun j u _ hu=>zAU.out _ O hu
  | iter encs=>
   cases e3
   obtain ⟨gf,lb,Rd,q1,q2,q3,q4⟩:=hr
   exact ⟨gf,lb,Rd,q1,q2,fun b hb=>⟨fun hm=>(q3 b hb).1 (hMS b hm),(q3 b hb).2⟩,q4⟩
  | mo x=>cases e3;exact hr
 ·obtain ⟨k,o,e1,e2,_⟩:=hget g1
  obtain ⟨k2,e3,e4⟩:=get g2
  have:k2=k:=Option.some.inj (e3.symm.trans e1)
  subst this
  exact R.hr.cel k2 o p b e2 e4 g3
 ·obtain ⟨k,o,e1,e2,_⟩:=hget g1
  obtain ⟨k2,o2,e3,e4,_⟩:=hget g2
  obtain ⟨k3,e5,e6⟩:=get g3
  obtain ⟨k4,e7,e8⟩:=get g4
  have:k3=k:=Option.some.inj (e5.symm.trans e1)
  subst this
  have:k4=k2:=Option.some.inj (e7.symm.trans e3)
  subst this
  refine R.hr.dis k3 k4 o o2 p1 p2 b (fun e=>hne ?_) e2 e4 e6 e8 g5 g6
  subst e
  exact (List.getElem?_inj (List.getElem?_eq_some_iff.1 e5).1 h1).1 (e5.trans e7.symm)
 ·have hi':i<S.fr.length:=by simpa [zBJ] using hi
  have:(zBJ σ S).fr.getD i .any=ren σ (S.fr.getD i .any):=by simp [zBJ,hi']
  rw [this];exact low _ (R.fr.2 i hi')
end
end Go.Proofs.YtekkngkphejfcaaGreatDoor
namespace Go.Proofs.YtekkngkphejfcaaGreatDoor
open Go.RowKit
def za9 (P:Program) (S:St):ResultVar→Option DV
 | .tmp t=>some (S.fr.getD t .any)
 | .cell x t=>match S.fr.getD x .any with
  | .ref k j=>match zRe P S t (.ref k j) with
   | some (d,_)=>some d
   | none=>none
  | _=>none
def zcS (P:Program) (S:St):List ResultVar→Option (List DV)
 | []=>some []
 | r::rs=>match za9 P S r with
  | some d=>match zcS P S rs with
   | some ds=>some (d::ds)
   | none=>none
  | none=>none
def zY3:List DV→DV
 | [d]=>d
 | ds=>.tup ds.length fun j=>ds.getD j .any
section
variable {P:Program} {Γ:Glo} {N:Nat→Prop} {S:St} {ρ:List zAJ} {a:Act} {w:World}
theorem zOC {t:TypeId} {k j:Nat} {d:DV} {vc:Prop} (h:zRe P S t (.ref k j)=some (d,vc)):vc:=by
 unfold zRe at h
 repeat' (split at h)
 all_goals first | (cases h;trivial) | (cases h;done) | (simp_all;done)
def zSd (tmps:Array Value):ResultVar→Sem Value
 | .tmp t=>pure (tmps.getD t undef)
 | .cell x t=>do loadVar t (←asAddr (tmps.getD x undef))
theorem zSe (R:Rel P Γ N S ρ a w): ∀ (rs:List ResultVar) (ds:List DV),zcS P S rs=some ds→∃ vs:List Value,(rs.mapM (zSd a.tmps)).run P w= .ok vs w∧vs.length=ds.length∧∀ i,i<ds.length→zAU (MS N S.h ρ) w (ds.getD i .any) ρ (vs.getD i undef)
 | [],ds,h=>by
  cases h
  exact ⟨[],rfl,rfl,fun i hi=>absurd hi (Nat.not_lt_zero i)⟩
 | r::rs,ds,h=>by
  simp only [zcS] at h
  split at h
  ·rename_i d hd
   split at h
   ·rename_i ds' hds
    cases h
    obtain ⟨vs,h1,h2,h3⟩:=zSe R rs ds' hds
    obtain ⟨v,g1,g2⟩: ∃ v,(zSd a.tmps r).run P w= .ok v w∧zAU (MS N S.h ρ) w d ρ v:=by
     unfold za9 at hd
     split at hd
     ·cases hd;exact ⟨_,rfl,R.fr.at _⟩
     ·rename_i x t
      split at hd
      ·rename_i k j e
       split at hd
       ·rename_i d' vc hl
        cases hd
        have hx:=R.fr.at x
        rw [e] at hx
        obtain ⟨v,q1,q2⟩:=zLQ R hx hl (zOC hl)
        obtain ⟨p,hp,hv⟩:=hx
        have q:=q1 w (Keep.ofExt (Ext.refl w))
        rw [hv,zIb] at q
        refine ⟨v,?_,q2⟩
        show (do loadVar t (←asAddr (a.tmps.getD x undef)):Sem Value).run P w=_
        rw [hv]
        exact q
       ·cases hd
      ·cases hd
    refine ⟨v::vs,?_,by simp [h2],fun i hi=>?_⟩
    ·rw [List.mapM_cons,Sem.run_bind,g1]
     simp only [Result.andThen,Sem.run_bind,h1,Sem.run_pure]
    ·cases i with
     | zero=>exact g2
     | succ i=>exact h3 i (by simpa using hi)
   ·cases h
  ·cases h
theorem zKn (R:Rel P Γ N S ρ a w) {fn:Func} {ds:List DV} (h:zcS P S fn.results.toList=some ds): ∃ v,(results fn a.tmps).run P w= .ok v w∧zAU (MS N S.h ρ) w (zY3 ds) ρ v:=by
 obtain ⟨vs,h1,h2,h3⟩:=zSe R _ _ h
 have hm:(fn.results.mapM (zSd a.tmps)).run P w= .ok vs.toArray w:=by
  rw [Array.mapM_eq_mapM_toList,←bind_pure_comp,Sem.run_bind,h1]
  rfl
 have hres:(results fn a.tmps).run P w= .ok (if h:vs.toArray.size=1 then vs.toArray[0] else .tuple vs.toArray) w:=by
  show (do let vs←fn.results.mapM (zSd a.tmps);pure (if h:vs.size=1 then vs[0] else .tuple vs):Sem Value).run P w=_
  rw [Sem.run_bind,hm]
  rfl
 refine ⟨_,hres,?_⟩
 match ds,vs,h2,h3 with
 | [],[],_,_=>exact ⟨#[],rfl,rfl,fun j hj=>absurd hj (Nat.not_lt_zero j)⟩
 | [d],[v],_,h3=>exact h3 0 (by simp)
 | d::d'::ds,v::v'::vs,h2,h3=>
  have: ¬ ((v::v'::vs).toArray.size=1):=by simp
  rw [dif_neg this]
  refine ⟨_,rfl,by simpa using h2,fun j hj=>?_⟩
  have hj':j<(v::v'::vs).length:=by rw [h2];exact hj
  exact ⟨(v::v'::vs).getD j undef,by simp only [List.getElem?_toArray,List.getD_eq_getElem?_getD,List.getElem?_eq_getElem hj'];rfl,h3 j hj⟩
def zPy (h:DH):Prop:=∀ (k:Nat) (encs:List (Array Value)),h[k]? ≠some (some (.iter encs))
theorem Rel.shut (R:Rel P Γ N S ρ a w) (hi:zPy S.h) {B:Nat} (hB:Γ.ng≤B) {W:World} (hs:zdL B w W):Rel P Γ N S ρ a W:=by
 have nc: ∀ {b:Nat},zQ0 w b→W.heap[b]? =w.heap[b]? :=fun {b} ⟨c,t,z,h⟩=>
  hs.block b (Array.getElem?_eq_some_iff.1 h).1 fun hx=>by rw [h] at hx;cases hx.2;cases t
 have O:zDW (MS N S.h ρ) w ρ (MS N S.h ρ) W ρ:=⟨fun b _ _ ⟨_,_,_,hc⟩=>nc (.cells hc),fun b h=>.inl h,fun _ _ h=>h⟩
 have hr: ∀ {p:zAJ} {n:Nat} {Rw:Nat→Value→Prop},zAP w p n Rw→W.heap[p.blk]? =w.heap[p.blk]? :=fun {p n Rw} h=>by
  obtain ⟨_,cs,t,h2,_⟩:=h
  exact nc (.cells h2)
 refine ⟨⟨R.hr.len,fun k o hk=>?_,fun k o p b h1 h2 h3=>?_,R.hr.dis,fun b hb=>⟨Nat.lt_of_lt_of_le (R.hr.nlt b hb).1 hs.size,(R.hr.nlt b hb).2⟩,Γ.st _ _ R.hr.gi (hs.mono fun i _ hx=>Nat.le_trans hB hx.1)⟩,R.fr.out O⟩
 ·obtain ⟨p,hp,ho⟩:=R.hr.obj k o hk
  refine ⟨p,hp,?_⟩
  cases o with
  | cells l=>exact zAP.out ho (hr ho) fun j u _ hu=>zAU.out _ O hu
  | ints l=>exact zAP.out ho (hr ho) fun j u _ hu=>hu
  | bools l=>exact zAP.out ho (hr ho) fun j u _ hu=>hu
  | arr m n f=>exact zAP.out ho (hr ho) fun j u _ hu=>zAU.out _ O.nil hu
  | iter encs=>exact absurd hk (hi k encs)
  | mo x=>exact zQw.out ho fun b hb hlt=>nc (R.hr.cel k _ p b hk hp hb).2.2
 ·obtain ⟨g1,g2,c,t,z,g3⟩:=R.hr.cel k o p b h1 h2 h3
  exact ⟨g1,g2,c,t,z,(nc ⟨c,t,z,g3⟩).trans g3⟩
theorem zCH.shut {h0 h:DH} {ρ0 ρ:List zAJ} {w0 w W:World} (st:zCH h0 ρ0 w0 h ρ w) (hs:zdL w0.heap.size w W):zCH h0 ρ0 w0 h ρ W:=
 ⟨st.upd.comp hs fun i hi hx=>absurd hx.1 (by omega),st.grow⟩
theorem zBs.anys (M:Nat→Prop) (w:World) (ρ:List zAJ) (n:Nat):zBs M w ρ (List.replicate n .any) (Array.replicate n undef):=
 ⟨by simp,fun i hi=>by
  have:(List.replicate n DV.any).getD i .any= .any:=by
   rw [List.getD_eq_getElem?_getD,List.getElem?_replicate];split <;> rfl
  rw [this];trivial⟩
def zVm (d:DV):Prop:=∀ (M:Nat→Prop) (w:World) (ρ:List zAJ) (v:Value),zAU M w d ρ v→zAU M w d [] v
def zdO (L:Nat) (S:St) (rs:List DV) (d:DV) (h':DH):Prop:=
 (DLe (zY3 rs) d∧S.h=h')∨(zPy S.h∧DLe (zY3 rs) d∧zVm d∧L≤S.h.length∧(zBJ (List.range L) S).h=h')
def Fin (P:Program) (fn:Func) (L:Nat) (d:DV) (h':DH) (e:Exit) (S':St):Prop:=
 (e= .normal∨e= .ret)∧∃ S'',SLe L S' S''∧∃ rs,zcS P S'' fn.results.toList=some rs∧zdO L S'' rs d h'
theorem ES.of_tr {f:Nat} {fn:Func} {c:Code} {ds:List DV} {h:DH} {d:DV} {h':DH} {ext:Bool} (hf:P.funcs[f]? =some fn) (hb:fn.body=some c) (hname:fn.name≠ "runtime.NumGoroutine") (hni:zPy h')
 (H: ∀ (B:Nat) (N:zDD P Γ h.length),Tr P Γ Fence.wide (some B) h.length N c ⟨ds++List.replicate (fn.ntmps-ds.length) .any,h⟩ (fun e S Y=>Y=N∧Fin P fn h.length d h' e S)) (hext:ext=true→h= []):ES P Γ f ds h d h' ext:=by
 refine ⟨⟨fn,hf,hname,by rw [hb];rfl⟩,fun N ρ w args HR hargs=>?_⟩
 refine zR7 w.heap.size hf hb ?_
 have hlen:ds.length=args.size:=hargs.1
 have R:Rel P Γ N ⟨ds++List.replicate (fn.ntmps-ds.length) .any,h⟩ ρ { tmps:=args++Array.replicate (fn.ntmps-args.size) undef,defers:=[] } w:=
  ⟨HR,zBs.append hargs (by rw [hlen];exact zBs.anys _ _ _ _)⟩
 have:=H w.heap.size (zOt P Γ h.length N h ρ w) N ρ _ w R ⟨rfl,zCH.refl _ _ _,zMK.refl _ _⟩ trivial (Bd.wide (Nat.le_refl _))
 refine wpIn_wide.1 (wpIn_mono this ?_)
 rintro e a' w' ⟨S',ρ',N',Y',h1,h2,h3,h4,h5⟩
 have key:Y'=zOt P Γ h.length N h ρ w→Fin P fn h.length d h' e S'→zEC w.heap.size a'.defers w'∧∀ W,zdL w.heap.size w' W→∃ v,(results fn a'.tmps).run P W= .ok v W∧∃ v',Ending.returned v= .returned v'∧Got P Γ N h ρ w ext d h' v' W:=by
  rintro rfl ⟨_,S'',hle,rs,hrs,hd | ⟨hi,hd,hn,hl,hh⟩⟩
  all_goals
   obtain ⟨e0,h3,h5⟩:=h3
   have e0:=e0.symm
   subst e0
  ·obtain ⟨hd,rfl⟩:=hd
   refine ⟨h4,fun W hW=>?_⟩
   obtain ⟨ρ'',R'',st'',k''⟩:=hle P Γ N ρ' a' w' h2
   have RW:=R''.shut hni (Γ.lo _ HR.gi) hW
   obtain ⟨v,g1,g2⟩:=zKn RW hrs
   have st:zCH h ρ w S''.h ρ'' W:=(h3.trans st'').shut hW
   refine ⟨v,g1,v,rfl,⟨⟨ρ'',RW.hr,hd _ _ _ _ g2,st,fun k p hp=>?_⟩,fun he=>?_⟩⟩
   ·have hk:k<h.length:=by rw [←HR.len];exact (List.getElem?_eq_some_iff.1 hp).1
    exact k'' k p hk (h5 k p hk hp)
   ·have:=hext he
    subst this
    exact st.upd.toExt fun i _ ⟨k,o,p,q1,_⟩=>by simp at q1
  ·refine ⟨h4,fun W hW=>?_⟩
   obtain ⟨ρ'',R'',st'',k''⟩:=hle P Γ N ρ' a' w' h2
   have RW:=R''.shut hi (Γ.lo _ HR.gi) hW
   obtain ⟨v,g1,g2⟩:=zKn RW hrs
   have st:zCH h ρ w S''.h ρ'' W:=(h3.trans st'').shut hW
   obtain ⟨ρ3,R3,st3,k3⟩:=SLe.compact (L:=h.length) (List.range h.length) S'' List.nodup_range (fun k hk=>Nat.lt_of_lt_of_le (List.mem_range.1 hk) hl) (fun k hk=>by simp [hk]) P Γ N ρ'' a' W RW
   rw [hh] at st3
   have R3h:=R3.hr
   rw [hh] at R3h
   refine ⟨v,g1,v,rfl,⟨⟨ρ3,R3h,?_,st.trans st3,fun k p hp=>?_⟩,fun he=>?_⟩⟩
   ·have r0:=hn _ _ _ _ (hd _ _ _ _ g2)
    have r1:zAU (MS N h' ρ3) W d [] v:=zAU.out _ ⟨fun _ _ _ _=>rfl,fun b hb=>hb.elim (fun hx=>.inl (.inl hx)) fun hx=>(st3.grow b hx).imp .inr id,fun _ _ hx=>by simp at hx⟩ r0
    exact zAU.out _ ⟨fun _ _ _ _=>rfl,fun b hb=>.inl hb,fun _ _ hx=>by simp at hx⟩ r1
   ·have hk:k<h.length:=by rw [←HR.len];exact (List.getElem?_eq_some_iff.1 hp).1
    exact k3 k p hk (k'' k p hk (h5 k p hk hp))
   ·have:=hext he
    subst this
    exact (st.trans st3).upd.toExt fun i _ ⟨k,o,p,q1,_⟩=>by simp at q1
 cases e with
 | normal=>exact key h1.1 h1.2
 | ret=>exact key h1.1 h1.2
 | exit id=>exact absurd h1.2.1 (by simp)
 | goto t=>exact absurd h1.2.1 (by simp)
 | panic ch=>exact h1.elim
 | outgrown=>exact h1.elim
def zTj (d:DV):Prop:=∀ (M M':Nat→Prop) (w w':World) (ρ ρ':List zAJ) (v:Value),zAU M w d ρ v→zAU M' w' d ρ' v
theorem zVm.agg {m:Nat} {f:Nat→DV} (h: ∀ j,j<m→zVm (f j)):zVm (.agg m f):=fun M w ρ _ ⟨cs,e,hs,hc⟩=>⟨cs,e,hs,fun j hj=>let ⟨u,h1,h2⟩:=hc j hj;⟨u,h1,h j hj M w ρ u h2⟩⟩
theorem zVm.tup {m:Nat} {f:Nat→DV} (h: ∀ j,j<m→zVm (f j)):zVm (.tup m f):=fun M w ρ _ ⟨cs,e,hs,hc⟩=>⟨cs,e,hs,fun j hj=>let ⟨u,h1,h2⟩:=hc j hj;⟨u,h1,h j hj M w ρ u h2⟩⟩
theorem zTj.int (k:IntKind) (n:Int):zTj (.int k n):=fun _ _ _ _ _ _ _ h=>h
theorem zTj.bool (b:Bool):zTj (.bool b):=fun _ _ _ _ _ _ _ h=>h
theorem zTj.tup {m:Nat} {f:Nat→DV} (h: ∀ j,j<m→zTj (f j)):zTj (.tup m f):=fun M M' w w' ρ ρ' _ ⟨cs,e,hs,hc⟩=>⟨cs,e,hs,fun j hj=>let ⟨u,h1,h2⟩:=hc j hj;⟨u,h1,h j hj M M' w w' ρ ρ' u h2⟩⟩
theorem zGa {M:Nat→Prop} (hM: ∀ b,M b→b<w.heap.size∧Γ.ng≤b) (hg:Γ.gi w):zDJ P Γ M [] [] w:=
 ⟨rfl,fun k o hk=>by simp at hk,fun k o p b h1=>by simp at h1,fun k k' o o' p p' b _ h1=>by simp at h1,hM,hg⟩
theorem zL7 {M:Nat→Prop} {b:Nat}:MS M [] [] b↔M b:=⟨fun h=>h.elim id fun ⟨k,o,p,h1,_⟩=>by simp at h1,.inl⟩
theorem ES.frame {f:Nat} {ds:List DV} {d:DV} (h0:ES P Γ f ds [] d [] true) (hds: ∀ x∈ds,zVm x) (h:DH):ES P Γ f ds h d h true:=by
 refine ⟨h0.1,fun N ρ w args HR hargs=>?_⟩
 refine (h0.2 (MS N h ρ) [] w args (zGa (fun b hb=>HR.lt2 hb) HR.gi) ⟨hargs.1,fun i hi=>?_⟩).mono ?_
 ·have hx:=hds (ds.getD i .any) (by simp [hi])
  exact zAU.out _ (zA7 (fun b hb=>zL7.1 hb) []) (hx _ _ _ _ (hargs.2 i hi))
 ·rintro e w' ⟨v,rfl,⟨⟨ρ',g1,g2,g3,g4⟩,g5⟩⟩
  have hE:=g5 rfl
  have hρ:ρ'= []:=List.eq_nil_of_length_eq_zero (by rw [g1.len];rfl)
  subst hρ
  exact ⟨v,rfl,⟨⟨ρ,HR.ext hE,zKo (zAU.out _ (zA7 (fun b hb=>zL7.2 hb) []) g2),zCH.ext hE,fun _ _ h=>h⟩,g5⟩⟩
def zA1 (h:DH) (d d0:DV):Prop:=∀ (P:Program) (Γ:Glo) (N:Nat→Prop) (ρ:List zAJ) (w:World) (v:Value),zDJ P Γ N h ρ w→zAU (MS N h ρ) w d ρ v→zAU (fun _=>False) w d0 [] v
theorem zA1.nref {h:DH} {d:DV} (hn:zVm d):zA1 h d d:=fun _ _ _ _ _ _ _ hr=>zAU.out _ (zA7 (fun _ hb=>hb.elim) []) (hn _ _ _ _ hr)
theorem zA1.ints {h:DH} {k n:Nat} {l:List Int} (hk:h[k]? =some (some (.ints l))) (hn:n=l.length):zA1 h (.msl k 1 0 n) (.ints l):=by
 rintro P Γ N ρ w v H ⟨p,cap,hp,e,g1,g2,_⟩
 subst hn
 obtain ⟨p',hp',hr⟩:=H.obj k _ hk
 have ep:p'=p:=Option.some.inj (hp'.symm.trans hp)
 subst ep
 refine ⟨_,cap,e,g1,g2,fun j hj=>⟨p'.blk,p'.off,by simp,id,?_⟩⟩
 obtain ⟨u,e1,e2⟩:=zAP.cell hr hj
 rw [e1,e2]
theorem zA1.bools {h:DH} {k n:Nat} {l:List Bool} (hk:h[k]? =some (some (.bools l))) (hn:n=l.length):zA1 h (.msl k 1 0 n) (.bools l):=by
 rintro P Γ N ρ w v H ⟨p,cap,hp,e,g1,g2,_⟩
 subst hn
 obtain ⟨p',hp',hr⟩:=H.obj k _ hk
 have ep:p'=p:=Option.some.inj (hp'.symm.trans hp)
 subst ep
 refine ⟨_,cap,e,g1,g2,fun j hj=>⟨p'.blk,p'.off,by simp,id,?_⟩⟩
 obtain ⟨u,e1,e2⟩:=zAP.cell hr hj
 rw [e1,e2]
theorem zA1.ref {h:DH} {k m:Nat} {l:List DV} {f:Nat→DV} (hk:h[k]? =some (some (.cells l))) (hm:m≤l.length) (hf: ∀ j,j<m→zA1 h (l.getD j .any) (f j)):zA1 h (.ref k 0) (.fp m f):=by
 rintro P Γ N ρ w v H ⟨p,hp,e⟩
 obtain ⟨p',hp',hr⟩:=H.obj k _ hk
 have ep:p'=p:=Option.some.inj (hp'.symm.trans hp)
 subst ep
 refine ⟨p'.blk,p'.off,e,fun j hj=>⟨id,?_⟩⟩
 obtain ⟨u,e1,e2⟩:=zAP.cell hr (j:=j) (by omega)
 exact ⟨u,e1,hf j hj P Γ N ρ w u H e2⟩
theorem ES.snap {f:Nat} {ds ds0:List DV} {d:DV} (h0:ES P Γ f ds0 [] d [] true) (h:DH) (hl:ds0.length=ds.length) (hs: ∀ i,i<ds.length→zA1 h (ds.getD i .any) (ds0.getD i .any)) (hd:zTj d):ES P Γ f ds h d h true:=by
 refine ⟨h0.1,fun N ρ w args HR hargs=>?_⟩
 refine (h0.2 (fun _=>False) [] w args (zGa (fun b hb=>hb.elim) HR.gi) ⟨by rw [hl];exact hargs.1,fun i hi=>?_⟩).mono ?_
 ·rw [hl] at hi
  exact zAU.out _ (zA7 (fun b hb=>zL7.1 hb) []) (hs i hi P Γ N ρ w _ HR (hargs.2 i hi))
 ·rintro e w' ⟨v,rfl,⟨⟨ρ',g1,g2,g3,g4⟩,g5⟩⟩
  have hE:=g5 rfl
  exact ⟨v,rfl,⟨⟨ρ,HR.ext hE,hd _ _ _ _ _ _ _ g2,zCH.ext hE,fun _ _ h=>h⟩,g5⟩⟩
end
end Go.Proofs.YtekkngkphejfcaaGreatDoor
namespace Go.Proofs.YtekkngkphejfcaaGreatDoor
open Go.RowKit
section
variable {F:Fence} {n:Nat} {P:Program} {ops:Array Oper} {Q:Exit→Act→World→Prop}
def wpR (F:Fence) (n:Nat) (P:Program) (ops:Array Oper) (Q:Exit→Act→World→Prop) (R:Nat→World→World→Prop):Nat→Array Bool→Act→World→Prop
 | 0,listed,a,w=>(∀ j,j<ops.size→listed.getD j true=true)∧Q .normal a w
 | m+1,listed,a,w=>Region.ready .any ops listed≠[]∧∀ i∈Region.ready .any ops listed,wpOpIn F n P ops (NP Q) i (fun a' w'=>R i w w'∧wpR F n P ops Q R m (listed.setIfInBounds i true) a' w') a w
theorem zSG {R R':Nat→World→World→Prop} (hR: ∀ i w w',R' i w w'→R i w w'): ∀ (m:Nat) (listed:Array Bool) (a:Act) (w:World),wpR F n P ops Q R' m listed a w→wpR F n P ops Q R m listed a w
 | 0,_,_,_,h=>h
 | m+1,_,_,_,h=>⟨h.1,fun i hi=>wpOpIn_mono (fun _ _ h'=>⟨hR _ _ _ h'.1,zSG hR m _ _ _ h'.2⟩) (h.2 i hi)⟩
theorem zWl {listed:Array Bool} (h: ∀ j,j<ops.size→listed.getD j true=true):Region.ready .any ops listed= []:=by
 cases hr:Region.ready .any ops listed with
 | nil=>rfl
 | cons i l=>
  have hi:i∈Region.ready .any ops listed:=by rw [hr];simp
  obtain ⟨h1,oi,h2,_⟩:=mem_ready.1 hi
  rw [h i (Array.getElem?_eq_some_iff.1 h2).1] at h1
  cases h1
theorem zJC {R:Nat→World→World→Prop}: ∀ (m:Nat) (listed:Array Bool) (a:Act) (w:World),wpR F n P ops Q R m listed a w→wpAnyIn F n P .any ops Q m listed a w
 | 0,_,_,_,h=>⟨zWl h.1,h.2⟩
 | m+1,_,_,_,h=>⟨fun h0=>absurd h0 h.1,fun i hi=>wpOpIn_mono (fun a' w' h'=>zJC m _ a' w' h'.2) (zOZ (h.2 i hi))⟩
theorem zVo (hF: ∀ f,F.fn f) (hnd:zBP ops=true) {R:Nat→World→World→Prop} {T:World→Prop} {i:Nat} {oi:Oper} {v:Value} (hi:ops[i]? =some oi) (hsel: ∀ (j:Nat) (o:Oper) cs b,ops[j]? =some o→o.op≠.select cs b) (hRi: ∀ w,R i w w):
 ∀ (m:Nat) (listed:Array Bool) (a:Act) (w:World),zDj ops listed→
  (∀ j oj,ops[j]? =some oj→j≠i→listed.getD j true=false→(∀ e∈oj.after,Region.binds .any e=true→e.on≠i)→oi.apart ops oj=true)→
  (∀ j,j<ops.size→j≠i→listed.getD j true=false→zGw ops ops.size j i=false→∀ w w',T w→R j w w'→T w')→
  i∈Region.ready .any ops listed→YieldsIf P ops T oi v a→T w→
  wpR F n P ops Q R m (listed.setIfInBounds i true) (a.put oi.dst v) w→wpR F n P ops Q R (m+1) listed a w:=by
 intro m
 induction m with
 | zero=>
  intro listed a w hcl _ _ hr hy hS H
  have hiun:=(mem_ready.1 hr).1
  refine ⟨fun h=>(by rw [h] at hr;cases hr),fun j hj=>?_⟩
  by_cases hji:j=i
  ·subst hji;exact zCI hF (zAu hnd hi) hi hy hS ⟨hRi w,H⟩
  ·exfalso
   obtain ⟨hjun,oj,hoj,hall⟩:=mem_ready.1 hj
   have hjs:=(Array.getElem?_eq_some_iff.1 hoj).1
   have:=H.1 j hjs
   rw [getD_set_ne true (Ne.symm hji),hjun] at this
   cases this
 | succ m ih=>
  intro listed a w hcl hfree hT hr hy hS H
  have hiun:=(mem_ready.1 hr).1
  refine ⟨fun h=>(by rw [h] at hr;cases hr),fun j hj=>?_⟩
  by_cases hji:j=i
  ·subst hji;exact zCI hF (zAu hnd hi) hi hy hS ⟨hRi w,H⟩
  ·have h1:=H.2 j (ready_mono hj hji)
   obtain ⟨hjun,oj,hoj,hall⟩:=mem_ready.1 hj
   have hjs:=(Array.getElem?_eq_some_iff.1 hoj).1
   have hnw:zGw ops ops.size j i=false:=by
    cases hx:zGw ops ops.size j i with
    | false=>rfl
    | true=>
     have:=zFU hcl _ j i oj hoj hall hx
     rw [zBe hiun] at this
     cases this
   have hnot: ∀ e∈oj.after,Region.binds .any e=true→e.on≠i:=fun e he hb heq=>by
    have h1:=hall e he hb
    rw [heq,zBe hiun] at h1
    cases h1
   have h2:=zJA hF (zAu hnd hoj) hoj (hfree j oj hoj hji hjun hnot) (fun cs b=>hsel i oi cs b hi) (fun cs b=>hsel j oj cs b hoj) (fun c a w h=>NP.put c a _ _ w h) hy h1
   have un: ∀ {k:Nat},(listed.setIfInBounds j true).getD k true=false→listed.getD k true=false:=fun {k} hun=>by
    by_cases hjk:j=k
    ·subst hjk;exact hjun
    ·rw [getD_set_ne true hjk] at hun;exact hun
   refine wpOpIn_mono (fun a' w' h3=>⟨h3.2.1,ih (listed.setIfInBounds j true) a' w' (hcl.set hj) (fun k ok hk hki hun hno=>hfree k ok hk hki (un hun) hno) (fun k hks hki hun hkw=>hT k hks hki (un hun) hkw) (ready_mono hr (Ne.symm hji)) h3.1 (hT j hjs hji hjun hnw w w' hS h3.2.1) ?_⟩) h2
   rw [Array.setIfInBounds_comm _ _ hji]
   exact h3.2.2
theorem zNI {id:Nat} {a:Act} {w:World} {R:Nat→World→World→Prop} (hm:P.follows .mixedOrders=true) (h:wpR F n P ops Q R ops.size (Array.replicate ops.size false) a w.drew):(Code.region id ops true).wpIn F n P Q a w:=
 wpIn_region_any hm (zJC _ _ _ _ h)
theorem zQi:zDj ops (Array.replicate ops.size false):=fun j oj _ hl=>by
 exfalso
 rcases Nat.lt_or_ge j ops.size with h | h
 ·simp [h] at hl
 ·simp [h] at hl
def zLE (ops:Array Oper) (i:Nat):Bool:=match ops[i]? with
 | some o=>zLD o.op
 | none=>false
def RZ (ops:Array Oper) (early:Nat→Bool) (Z:Nat→Nat→Prop) (j:Nat) (w w':World):Prop:=(zLE ops j=true→w'=w)∧(early j=true→Upd (Z j) w w')
def zdS (ops:Array Oper) (early:Nat→Bool) (i:Nat) (listed:Array Bool):Bool:=
 (Region.ready .any ops listed).contains i&&Region.free .any ops listed i&&zLE ops i&&
  ((List.range ops.size).all fun j=>listed.getD j true||j==i||zLE ops j||early j||zGw ops ops.size j i)
theorem zSg (hF: ∀ f,F.fn f) (hnd:zBP ops=true) (hs:Region.noSelect ops=true) {early:Nat→Bool} {Z:Nat→Nat→Prop} {Zi:Nat→Prop} {i m:Nat} {listed:Array Bool} {a:Act} {w:World} {oi:Oper} {v:Value} (hi:ops[i]? =some oi) (hcl:zDj ops listed) (hok:zdS ops early i listed=true) (hZ: ∀ j,zGw ops ops.size j i=false→∀ b,Z j b→Zi b)
 (hy:YieldsIf P ops (Upd Zi w) oi v a) (h:wpR F n P ops Q (RZ ops early Z) m (listed.setIfInBounds i true) (a.put oi.dst v) w):wpR F n P ops Q (RZ ops early Z) (m+1) listed a w:=by
 simp only [zdS,Bool.and_eq_true,List.all_eq_true,List.mem_range,Bool.or_eq_true,beq_iff_eq] at hok
 obtain ⟨⟨⟨h1,h2⟩,h3⟩,h4⟩:=hok
 refine zVo hF hnd hi (Region.noSelect_spec hs) (fun w=>⟨fun _=>rfl,fun _=>Upd.refl _ _⟩) m listed a w hcl (Region.free_spec hi h2) (fun j hj hji hun hw w1 w2 hT hR=>?_) (by simpa using h1) hy (Upd.refl _ _) h
 rcases h4 j hj with (((h | h) | h) | h) | h
 ·rw [hun] at h;cases h
 ·exact absurd h hji
 ·rw [hR.1 h];exact hT
 ·exact hT.trans ((hR.2 h).mono fun b _ hb=>hZ j hw b hb)
 ·rw [hw] at h;cases h
theorem zI5 {listed:Array Bool} {i:Nat} (hcl:zDj ops listed) (h:(Region.ready .any ops listed).contains i=true):zDj ops (listed.setIfInBounds i true):=hcl.set (by simpa using h)
end
end Go.Proofs.YtekkngkphejfcaaGreatDoor
namespace Go.Proofs.YtekkngkphejfcaaGreatDoor
open Go.RowKit
inductive ST where
 | fin (π live:List Nat)
 | rd (i:Nat) (t:ST)
 | ef (i:Nat) (t alt:ST)
 | no
def zQt:ST→List Nat
 | .ef i _ alt=>i::zQt alt
 | _=>[]
def zL9 (ops:Array Oper) (early:List Nat):Bool→Nat→ST→Array Bool→Bool
 | false,0,.fin _ _,L=>(List.range ops.size).all fun j=>L.getD j true
 | false,m+1,.rd i t,L=>zdS ops (fun j=>early.contains j) i L&&zL9 ops early false m t (L.setIfInBounds i true)
 | b,m+1,.ef i t alt,L=>(b||Region.ready .any ops L==zQt (.ef i .no alt))&&!zLE ops i&&zL9 ops early false m t (L.setIfInBounds i true)&&zL9 ops early true (m+1) alt L
 | true,_,.no,_=>true
 | _,_,_,_=>false
def zVk (p:Nat→Bool) (h:DH):DH:=(List.range h.length).map fun i=>if p i then h.getD i none else none
def zd4 (xs:List Nat) (h:DH):DH:=zVk (fun i=>!xs.contains i) h
def zTh (xs:List Nat) (h:DH):Bool:=xs.all fun k=>decide (h.length≤k)||(h.getD k none).isSome
def zc0 (h h':DH):Bool:=(List.range h.length).all fun k=>!(h.getD k none).isSome||(h'.getD k none).isSome
def zGy (S:St) (o:Oper):Option Nat:=match o.op with
 | .store _ x _=>match opd S.fr x with
  | .ref k _=>some k
  | .mp k _ _ _=>some k
  | _=>none
 | _=>none
def zeG (σ:List Nat) (L n:Nat):Bool:=decide σ.Nodup&&σ.all (fun k=>decide (k<n))&&(List.range L).all fun k=>decide (σ[k]? =some k)
def xsA (xs:List (Nat×Nat)) (nw:List Nat):List Nat:=xs.map (·.2)++nw
def xsJ (xs:List (Nat×Nat)) (nw:List Nat) (j:Nat):List Nat:=(xs.filter fun q=>q.1==j).map (·.2)++nw
def xsI (ops:Array Oper) (xs:List (Nat×Nat)) (nw:List Nat) (i:Nat):List Nat:=(xs.filter fun q=>!zGw ops ops.size q.1 i).map (·.2)++nw
def zeM (early:List Nat) (xs:List (Nat×Nat)) (nw:List Nat) (S S1:St) (i:Nat) (o:Oper) (ext:Bool):Bool:=
 zTh (xsA xs nw) S.h&&zTh (xsA xs nw) S1.h&&((xsA xs nw).all (fun k=>decide (k<S.h.length))||zc0 S.h S1.h)&&(!(early.contains i)||ext||(match zGy S o with | some k=>(xsJ xs nw i).contains k | none=>false))
def zdQ (π:List Nat) (L0:Nat):List Nat:=List.range L0++π.map (· +L0)
def zOb (P:Program) (Γ:Glo) (ops:Array Oper) (early:List Nat) (xs:List (Nat×Nat)) (nw:List Nat) (L0:Nat) (S':St):ST→St→Orc→Option (List Prop×Orc)
 | .no,_,orc=>some ([],orc)
 | .fin π live,S,orc=>if zeG (zdQ π L0) L0 S.h.length then some ([zBJ (zdQ π L0) ⟨forget live S.fr,S.h⟩=S'],orc) else none
 | .rd i t,S,orc=>match ops[i]? with
  | none=>none
  | some o=>if zTh (xsI ops xs nw i) S.h then match zXI P ops ⟨S.fr,zd4 (xsI ops xs nw i) S.h⟩ orc.co o with
   | none=>none
   | some (S1,vs,co')=>match zOb P Γ ops early xs nw L0 S' t ⟨S1.fr,S.h⟩ ⟨orc.calls,co',orc.fz,orc.tg⟩ with
    | none=>none
    | some (vs',orc')=>some (vs++vs',orc')
   else none
 | .ef i t alt,S,orc=>match ops[i]? with
  | none=>none
  | some o=>match zSC P Γ ops S orc o with
   | none=>none
   | some (S1,vs,ext,orc1)=>if zeM early xs nw S S1 i o ext then
    match zOb P Γ ops early xs nw L0 S' t S1 orc1 with
    | none=>none
    | some (vs1,orc2)=>match zOb P Γ ops early xs nw L0 S' alt S orc2 with
     | none=>none
     | some (vs2,orc3)=>some (vs++(vs1++vs2),orc3)
    else none
def TOk (ops:Array Oper) (early:List Nat) (t:ST):Prop:=(zL9 ops early false ops.size t (Array.replicate ops.size false)&&Region.noSelect ops&&zBP ops)=true
def zdp (P:Program) (Γ:Glo) (ops:Array Oper) (early:List Nat) (t:ST) (S:St) (orc:Orc):Option (St×List Prop×Orc):=match orc.tg with
 | []=>none
 | (ks,S')::rest=>match zOb P Γ ops early ks (List.range' S.h.length ops.size) S.h.length S' t S ⟨orc.calls,orc.co,orc.fz,rest⟩ with
  | none=>none
  | some (vs,orc')=>some (S',vs,orc')
theorem zGe {p:Nat→Bool} {h:DH} {i:Nat} {o:DO} (hi:(zVk p h)[i]? =some (some o)):h[i]? =some (some o)∧p i=true:=by
 unfold zVk at hi
 rw [List.getElem?_map] at hi
 cases hr:(List.range h.length)[i]? with
 | none=>rw [hr] at hi;cases hi
 | some j=>
  have hj:i<h.length∧i=j:=by
   have:=List.getElem?_eq_some_iff.1 hr
   obtain ⟨h1,h2⟩:=this
   simp at h1 h2
   exact ⟨h1,h2⟩
  rw [hr] at hi
  obtain ⟨h1,rfl⟩:=hj
  have hi:(if p i then h.getD i none else none)=some o:=Option.some.inj hi
  split at hi
  ·exact ⟨by rw [List.getD_eq_getElem?_getD,List.getElem?_eq_getElem h1] at hi;rw [List.getElem?_eq_getElem h1];exact congrArg some hi,by assumption⟩
  ·cases hi
theorem zRC {p:Nat→Bool} {h:DH}:(zVk p h).length=h.length:=by simp [zVk]
theorem zQN {p:Nat→Bool} {h:DH} {k:Nat} (hp:p k=true) (hk:k<h.length):(zVk p h)[k]? =h[k]? :=by
 unfold zVk
 rw [List.getElem?_map,List.getElem?_range hk]
 simp [hp,List.getD_eq_getElem?_getD,hk]
section
variable {P:Program} {Γ:Glo} {N:Nat→Prop} {S:St} {ρ:List zAJ} {a:Act} {w:World}
theorem Rel.sel (R:Rel P Γ N S ρ a w) (p:Nat→Bool):Rel P Γ (fun b=>N b∨∃ k o q,p k=false∧S.h[k]? =some (some o)∧ρ[k]? =some q∧q.foot b) ⟨S.fr,zVk p S.h⟩ ρ a w:=by
 have hM: ∀ b,MS (fun b=>N b∨∃ k o q,p k=false∧S.h[k]? =some (some o)∧ρ[k]? =some q∧q.foot b) (zVk p S.h) ρ b→MS N S.h ρ b:=by
  rintro b ((h | ⟨k,o,q,h1,h2,h3,h4⟩) | ⟨k,o,q,h1,h2,h3⟩)
  ·exact .inl h
  ·exact .inr ⟨k,o,q,h2,h3,h4⟩
  ·exact .inr ⟨k,o,q,(zGe h1).1,h2,h3⟩
 refine ⟨⟨by rw [zRC];exact R.hr.len,fun i o hi=>?_,fun i o q b g1 g2 g3=>?_,fun i i' o1 o2 p1 p2 b hne g1 g2 g3 g4 g5 g6=>R.hr.dis i i' o1 o2 p1 p2 b hne (zGe g1).1 (zGe g2).1 g3 g4 g5 g6,?_,R.hr.gi⟩,R.fr.out (zA7 hM ρ)⟩
 ·obtain ⟨q,hq,hr⟩:=R.hr.obj i o (zGe hi).1
  exact ⟨q,hq,hr.out (zA7 hM ρ) (S:=fun _=>False) (Upd.refl _ _) (fun _ h=>h.elim) fun _ _ _ h=>h⟩
 ·obtain ⟨hi,hpi⟩:=zGe g1
  obtain ⟨c1,c2,c3⟩:=R.hr.cel i o q b hi g2 g3
  refine ⟨c1,?_,c3⟩
  rintro (h | ⟨k,o',q',h1,h2,h3,h4⟩)
  ·exact c2 h
  ·exact R.hr.dis i k o o' q q' b (fun e=>by subst e;rw [hpi] at h1;cases h1) hi h2 g2 h3 g3 h4
 ·rintro b (h | ⟨k,o',q',h1,h2,h3,h4⟩)
  ·exact R.hr.nlt b h
  ·obtain ⟨c1,_,c,t,z,c3⟩:=R.hr.cel k o' q' b h2 h3 h4
   exact ⟨(Array.getElem?_eq_some_iff.1 c3).1,c1⟩
theorem Rel.unsel {p:Nat→Bool} {fr:List DV} (R0:zDJ P Γ N S.h ρ w) (R:zBs (MS (fun b=>N b∨∃ k o q,p k=false∧S.h[k]? =some (some o)∧ρ[k]? =some q∧q.foot b) (zVk p S.h) ρ) w ρ fr a.tmps):Rel P Γ N ⟨fr,S.h⟩ ρ a w:=by
 refine ⟨R0,R.out (zA7 (fun b hb=>?_) ρ)⟩
 rcases hb with h | ⟨k,o,q,h1,h2,h3⟩
 ·exact .inl (.inl h)
 ·cases hp:p k with
  | false=>exact .inl (.inr ⟨k,o,q,hp,h1,h2,h3⟩)
  | true=>
   refine .inr ⟨k,o,q,?_,h2,h3⟩
   rw [zQN hp (List.getElem?_eq_some_iff.1 h1).1];exact h1
def Zs (xs:List Nat) (ρ:List zAJ) (w:World) (b:Nat):Prop:=(∃ k q,k∈xs∧ρ[k]? =some q∧q.foot b)∨w.heap.size≤b
theorem zRh {xs:List Nat} (R:zDJ P Γ N S.h ρ w) (hal:zTh xs S.h=true) {W:World} (hu:Upd (Zs xs ρ w) w W):Keep (fun b=>N b∨∃ k o q,(!xs.contains k)=false∧S.h[k]? =some (some o)∧ρ[k]? =some q∧q.foot b) w W:=by
 intro b o u hb hc
 have hlt:b<w.heap.size:=World.block_lt_of_cell? w ⟨b,o,none⟩ hc
 refine (zNA (hu.block b hlt ?_)).trans hc
 rintro (⟨k,q,h1,h2,h3⟩ | h)
 ·have hk:k<S.h.length:=by rw [←R.len];exact (List.getElem?_eq_some_iff.1 h2).1
  have hx:=List.all_eq_true.1 hal k h1
  simp only [Bool.or_eq_true,decide_eq_true_eq] at hx
  rcases hx with hx | hx
  ·omega
  ·cases hg:S.h.getD k none with
   | none=>rw [hg] at hx;cases hx
   | some ob=>exact hb (.inr ⟨k,ob,q,by simp [h1],getD_some hg,h2,h3⟩)
 ·omega
theorem zCG {ρ':Operand→Value} {o:Oper} {t:TypeId} {x y:Operand} (ho:o.op= .store t x y) {nx:Next} {w w':World} (h:(execOp ρ' o).run P w= .ok nx w'):nx= .skip:=by
 unfold execOp at h
 rw [ho] at h
 have h:(Instr.storeAt t (ρ' x) (ρ' y)>>=fun _=>(pure .skip:Sem Next)).run P w= .ok nx w':=h
 rw [Sem.run_bind] at h
 cases hs:(Instr.storeAt t (ρ' x) (ρ' y)).run P w with
 | ok v w1=>rw [hs] at h;simp only [Result.andThen] at h;cases h;rfl
 | halt x w1=>rw [hs] at h;simp only [Result.andThen] at h;cases h
theorem zDl.store {ρ':Operand→Value} {o:Oper} {t:TypeId} {x y:Operand} (ho:o.op= .store t x y) {w:World} {G G':Value→World→Prop} (h:zDl P (execOp ρ' o) w G) (h':zDl P (execOp ρ' o) w G'):zDl P (execOp ρ' o) w (fun v W=>G v W∧G' v W):=by
 rcases h with ⟨v,w1,h1,_⟩ | ⟨w1,h1,h2⟩ | ⟨f,ag,w1,h1,_⟩
 ·cases zCG ho h1
 ·rcases h' with ⟨v,w2,g1,_⟩ | ⟨w2,g1,g2⟩ | ⟨f,ag,w2,g1,_⟩
  ·cases zCG ho g1
  ·rw [h1] at g1
   cases g1
   exact .inr (.inl ⟨w1,h1,h2,g2⟩)
  ·cases zCG ho g1
 ·cases zCG ho h1
theorem zQ9 {t:TypeId} {x d:DV} {k:Nat} {h':DH} {vc:Prop} (hx:(∃ j,x= .ref k j)∨∃ m i j,x= .mp k m i j) (h:zKX P S t x d=some (h',vc)):k<S.h.length∧∃ h2,zKX P ⟨S.fr,zVk (fun i=>i==k) S.h⟩ t x d=some (h2,vc):=by
 have key: ∀ {o:DO},S.h[k]? =some (some o)→k<S.h.length∧(zVk (fun i=>i==k) S.h)[k]? =some (some o):=fun {o} ho=>by
  have hk:=(List.getElem?_eq_some_iff.1 ho).1
  exact ⟨hk,by rw [zQN (by simp) hk];exact ho⟩
 unfold zKX at h ⊢
 rcases hx with ⟨j,rfl⟩ | ⟨m,i,j,rfl⟩
 ·simp only at h ⊢
  split at h
  ·rename_i l hl
   obtain ⟨h1,h2⟩:=key hl
   refine ⟨h1,?_⟩
   simp only [h2]
   repeat' (split at h)
   all_goals first | (cases h;done) | skip
   cases h
   rename_i q1 q2 q3
   simp only [q1,q2,q3,if_true]
   exact ⟨_,rfl⟩
  ·cases h
 ·simp only at h ⊢
  split at h
  ·rename_i hsz
   split at h
   ·rename_i l hl
    obtain ⟨h1,h2⟩:=key hl
    refine ⟨h1,?_⟩
    simp only [h2,hsz,if_true]
    repeat' (split at h)
    all_goals first | (cases h;done) | skip
    cases h
    rename_i q1
    simp only [q1,if_true]
    exact ⟨_,rfl⟩
   ·rename_i l hl
    obtain ⟨h1,h2⟩:=key hl
    refine ⟨h1,?_⟩
    simp only [h2,hsz,if_true]
    repeat' (split at h)
    all_goals first | (cases h;done) | skip
    cases h
    rename_i q1
    simp only [q1,if_true]
    exact ⟨_,rfl⟩
   ·rename_i m' n f hl
    obtain ⟨h1,h2⟩:=key hl
    refine ⟨h1,?_⟩
    simp only [h2,hsz,if_true]
    repeat' (split at h)
    all_goals first | (cases h;done) | skip
    cases h
    rename_i q1
    simp only [q1,if_true]
    exact ⟨_,rfl⟩
   ·cases h
  ·cases h
theorem zOs {o:Oper} {k:Nat} (h:zGy S o=some k): ∃ t x y,o.op= .store t x y∧((∃ j,opd S.fr x= .ref k j)∨∃ m i j,opd S.fr x= .mp k m i j):=by
 unfold zGy at h
 split at h
 ·rename_i t x y ho
  refine ⟨t,x,y,ho,?_⟩
  split at h
  ·rename_i j e;cases h;exact .inl ⟨j,e⟩
  ·rename_i m i j e;cases h;exact .inr ⟨m,i,j,e⟩
  ·cases h
 ·cases h
theorem zVh {calls:List (DV×DH×Bool)} {o:Oper} {t:TypeId} {x y:Operand} (ho:o.op= .store t x y) {d:DV} {h':DH} {vs:List Prop} {ext:Bool} {calls':List (DV×DH×Bool)} (h:zcW P Γ S calls o.op=some (d,h',vs,ext,calls')): ∃ vc,zKX P S t (opd S.fr x) (opd S.fr y)=some (h',vc)∧vs= [vc]:=by
 rw [ho] at h
 simp only [zcW] at h
 split at h
 ·rename_i h1 vc hs
  cases h
  exact ⟨vc,hs,rfl⟩
 ·cases h
theorem zSF (R:Rel P Γ N S ρ a w) {calls:List (DV×DH×Bool)} {o:Oper} {d:DV} {h':DH} {vs:List Prop} {ext:Bool} {calls':List (DV×DH×Bool)} (h:zcW P Γ S calls o.op=some (d,h',vs,ext,calls')) (hv:zDk vs):
 zDl P (execOp a.eval o) w (fun v w'=>Got P Γ N S.h ρ w ext d h' v w'∧∀ k,zGy S o=some k→Upd (fun b=>∃ q,ρ[k]? =some q∧q.foot b) w w'):=by
 cases hst:zGy S o with
 | none=>
  have D:=zI7 R h hv
  rcases D with ⟨v,w1,h1,h2⟩ | ⟨w1,h1,h2⟩ | ⟨f,ag,w1,h1,h2⟩
  ·exact .inl ⟨v,w1,h1,h2,fun k hk=>by cases hk⟩
  ·exact .inr (.inl ⟨w1,h1,h2,fun k hk=>by cases hk⟩)
  ·exact .inr (.inr ⟨f,ag,w1,h1,h2.mono fun e w'' ⟨v,e1,e2⟩=>⟨v,e1,e2,fun k hk=>by cases hk⟩⟩)
 | some k=>
  obtain ⟨t,x,y,ho,hx⟩:=zOs hst
  have D:=zI7 R h hv
  obtain ⟨vc,hs,rfl⟩:=zVh ho h
  obtain ⟨_,h2,hs2⟩:=zQ9 hx hs
  have D2:=zJJ (Rel.sel R (fun i=>i==k)) (tx:=x) (x:=y) hs2 hv.1 o ho
  have D3:=zDl.store ho D D2
  rcases D3 with ⟨v,w1,h1,g1,g2⟩ | ⟨w1,h1,g1,g2⟩ | ⟨f,ag,w1,h1,_⟩
  ·cases zCG ho h1
  ·refine .inr (.inl ⟨w1,h1,g1,fun k' hk'=>?_⟩)
   cases hk'
   obtain ⟨ρ2,_,_,st,_⟩:=g2.ex
   refine st.upd.mono fun b _ hb=>?_
   obtain ⟨i,o',q,q1,q2,q3⟩:=hb
   have:=(zGe q1).2
   have e:i=k:=by simpa using this
   subst e
   exact ⟨q,q2,q3⟩
  ·cases zCG ho h1
theorem zQp {F:Fence} (hF:FOk F P) (R:Rel P Γ N S ρ a w) {ops:Array Oper} {orc:Orc} {o:Oper} (hd: ∀ c,o.op≠.defer c) {S':St} {vs:List Prop} {ext:Bool} {orc':Orc} (h:zSC P Γ ops S orc o=some (S',vs,ext,orc')) (hv:zDk vs)
 {K:Act→World→Prop} {Q:Exit→Act→World→Prop} (hK: ∀ ρ' a' w',Rel P Γ N S' ρ' a' w'→zGJ S.h ρ w S'.h ρ' w'→a'.defers=a.defers→(ext=true→Ext w w')→(∀ k,zGy S o=some k→Upd (fun b=>∃ q,ρ[k]? =some q∧q.foot b) w w')→K a' w'):
 if Region.wanted o (yielded ops a.tmps) then o.wpIn F 0 P a w K Q else (∀ f,o.about P w a.eval=some f→F.fn f)∧K (a.put o.dst undef) w:=by
 have hdef: ∀ v,(a.put o.dst v).defers=a.defers:=fun v=>by cases ho:o.dst <;> simp [Act.put]
 unfold zSC at h
 split at h
 ·cases h
 ·rename_i hw
  cases h
  rw [if_neg (by rw [zBD R hw];exact Bool.false_ne_true)]
  exact ⟨fun f _=>hF.fn f,hK ρ _ _ (zDL R _ zNK) (zGJ.refl _ _ _) (hdef _) (fun _=>Ext.refl w) fun _ _=>Upd.refl _ _⟩
 ·rename_i hw
  rw [if_pos (zBD R hw)]
  split at h
  ·rename_i S1 vs1 hM
   cases h
   refine zEX hF hd (zJI R hM hv) fun v w' ⟨⟨ρ',g1,g2⟩,k,i,p,t,x,y,q1,q2,q3,q4⟩=>hK ρ' _ _ g1 g2 (hdef v) (fun e=>by cases e) fun k' hk'=>?_
   have e:k'=k:=by
    unfold zGy at hk'
    rw [q1] at hk'
    simp only [q2] at hk'
    exact (Option.some.inj hk').symm
   subst e
   exact q4.mono fun b _ hb=>⟨p,q3,hb⟩
  split at h
  ·cases h
  ·rename_i d h1 vs1 ext1 calls hact
   split at h
   rename_i d' vs' co' hco
   split at h
   ·cases h
   ·rename_i S2 vs'' fz' hfz
    cases h
    obtain ⟨hv1,hv23⟩:=zAO.1 hv
    obtain ⟨hv2,hv3⟩:=zAO.1 hv23
    refine zEX hF hd (zSF R hact hv1) fun v w' G=>?_
    obtain ⟨ρ',g1,g2⟩:=zYL R o.dst G.1 (d':=d') fun M ρ' hr=>zLs hco hv2 hr
    obtain ⟨g3,g4⟩:=zI0 _ hfz hv3 P Γ N ρ' _ _ g1
    exact hK ρ' _ _ g3 (g2.trans ⟨g4,fun _ _ h=>h⟩) (hdef v) G.1.ext G.2
theorem zTo {F:Fence} (hF:FOk F P) {ops:Array Oper} (hnd:zBP ops=true) (hs:Region.noSelect ops=true) {early:List Nat} {xs:List (Nat×Nat)} {nw:List Nat} {L0:Nat} {S':St} {Q:Exit→Act→World→Prop}:
 ∀ (t:ST) (m:Nat) (L:Array Bool) {S:St} {ρ:List zAJ} {a:Act} {w:World} {vs:List Prop} {orc orc':Orc},zDj ops L→Rel P Γ N S ρ a w→zOb P Γ ops early xs nw L0 S' t S orc=some (vs,orc')→zDk vs→
 (∀ ρ' a' w',Rel P Γ N S' ρ' a' w'→zCH S.h ρ w S'.h ρ' w'→(∀ k p,k<L0→ρ[k]? =some p→ρ'[k]? =some p)→a'.defers=a.defers→Q .normal a' w')→
 (zL9 ops early false m t L=true→wpR F 0 P ops Q (RZ ops (fun j=>early.contains j) (fun j=>Zs (xsJ xs nw j) ρ w)) m L a w)∧
 (zL9 ops early true m t L=true→∀ i∈zQt t,i∈Region.ready .any ops L→∃ m',m=m'+1∧wpOpIn F 0 P ops (NP Q) i (fun a' w'=>RZ ops (fun j=>early.contains j) (fun j=>Zs (xsJ xs nw j) ρ w) i w w'∧wpR F 0 P ops Q (RZ ops (fun j=>early.contains j) (fun j=>Zs (xsJ xs nw j) ρ w)) m' (L.setIfInBounds i true) a' w') a w):=by
 intro t
 induction t with
 | no=>
  intro m L S ρ a w vs orc orcE hcl R hV hv hQ
  exact ⟨fun h=>by cases m <;> simp [zL9] at h,fun _ i hi=>by cases hi⟩
 | fin π live=>
  intro m L S ρ a w vs orc orcE hcl R hV hv hQ
  refine ⟨fun h=>?_,fun h=>by cases m <;> simp [zL9] at h⟩
  cases m with
  | succ m=>simp [zL9] at h
  | zero=>
   simp only [zL9,List.all_eq_true,List.mem_range] at h
   refine ⟨h,?_⟩
   simp only [zOb] at hV
   split at hV
   ·rename_i hσ
    cases hV
    simp only [zeG,Bool.and_eq_true,decide_eq_true_eq,List.all_eq_true,List.mem_range] at hσ
    obtain ⟨ρ0,R0,st0,k0⟩:=SLe.forget (L:=L0) live S.fr S.h P Γ N ρ a w R
    obtain ⟨ρ',R',st',k'⟩:=SLe.compact (L:=L0) (zdQ π L0) ⟨forget live S.fr,S.h⟩ hσ.1.1 (fun k hk=>hσ.1.2 k hk) (fun k hk=>hσ.2 k hk) P Γ N ρ0 a w R0
    have st:=st0.trans st'
    have e:zBJ (zdQ π L0) ⟨forget live S.fr,S.h⟩=S':=hv.1
    rw [e] at R' st st'
    exact hQ ρ' a w R' st (fun k p hk hp=>k' k p hk (k0 k p hk hp)) rfl
   ·cases hV
 | rd i t ih=>
  intro m L S ρ a w vs orc orcE hcl R hV hv hQ
  refine ⟨fun h=>?_,fun h=>by cases m <;> simp [zL9] at h⟩
  cases m with
  | zero=>simp [zL9] at h
  | succ m=>
   simp only [zL9,Bool.and_eq_true] at h
   simp only [zOb] at hV
   split at hV
   ·cases hV
   ·rename_i o ho
    split at hV
    ·rename_i hal
     split at hV
     ·cases hV
     ·rename_i S1 vs1 co1 hp
      split at hV
      ·cases hV
      ·rename_i vs2 orc2 h2
       cases hV
       obtain ⟨hv1,hv2⟩:=zAO.1 hv
       have RK:=Rel.sel R (fun k=>!(xsI ops xs nw i).contains k)
       obtain ⟨e1,hst⟩:=zE7 RK hp hv1
       have hdef: ∀ v,(a.put o.dst v).defers=a.defers:=fun v=>by cases ho:o.dst <;> simp [Act.put]
       have hready:(Region.ready .any ops L).contains i=true:=by
        have:=h.1
        simp only [zdS,Bool.and_eq_true] at this
        exact this.1.1.1
       have back: ∀ v,zBs (MS (fun b=>N b∨∃ k o q,(!(xsI ops xs nw i).contains k)=false∧S.h[k]? =some (some o)∧ρ[k]? =some q∧q.foot b) S1.h ρ) w ρ S1.fr (a.put o.dst v).tmps→Rel P Γ N ⟨S1.fr,S.h⟩ ρ (a.put o.dst v) w:=fun v hr=>by
        rw [e1] at hr
        exact Rel.unsel (p:=fun k=>!(xsI ops xs nw i).contains k) R.hr hr
       have hZ: ∀ j,zGw ops ops.size j i=false→∀ b,Zs (xsJ xs nw j) ρ w b→Zs (xsI ops xs nw i) ρ w b:=by
        rintro j hj b (⟨k,q,k1,k2,k3⟩ | hb)
        ·refine .inl ⟨k,q,?_,k2,k3⟩
         unfold xsJ at k1
         unfold xsI
         rcases List.mem_append.1 k1 with k1 | k1
         ·obtain ⟨p,p1,p2⟩:=List.mem_map.1 k1
          obtain ⟨p3,p4⟩:=List.mem_filter.1 p1
          have:p.1=j:=by simpa using p4
          exact List.mem_append.2 (.inl (List.mem_map.2 ⟨p,List.mem_filter.2 ⟨p3,by rw [this,hj];rfl⟩,p2⟩))
         ·exact List.mem_append.2 (.inr k1)
        ·exact .inr hb
       rcases hst with ⟨hw,v,g1,g2⟩ | ⟨hw,g2⟩
       ·refine zSg (Zi:=Zs (xsI ops xs nw i) ρ w) hF.fn hnd hs ho hcl h.1 hZ (.inl ⟨hw,fun W hu=>g1 W (zRh R.hr hal hu)⟩) ?_
        exact (ih m _ (zI5 hcl hready) (back v g2.fr) h2 hv2 fun ρ' a' w' q1 q2 q3 q4=>hQ ρ' a' w' q1 q2 q3 (q4.trans (hdef v))).1 h.2
       ·refine zSg (Zi:=Zs (xsI ops xs nw i) ρ w) hF.fn hnd hs (v:=undef) ho hcl h.1 hZ (.inr ⟨hw,rfl⟩) ?_
        exact (ih m _ (zI5 hcl hready) (back undef g2.fr) h2 hv2 fun ρ' a' w' q1 q2 q3 q4=>hQ ρ' a' w' q1 q2 q3 (q4.trans (hdef undef))).1 h.2
    ·cases hV
 | ef i t alt ih1 ih2=>
  intro m L S ρ a w vs orc orcE hcl R hV hv hQ
  simp only [zOb] at hV
  split at hV
  ·cases hV
  ·rename_i o ho
   split at hV
   ·cases hV
   ·rename_i S1 vs1 ext orc1 h1
    split at hV
    ·rename_i hch
     simp only [zeM,Bool.and_eq_true,Bool.or_eq_true] at hch
     obtain ⟨⟨⟨hal,hal1⟩,hkeep⟩,hearly⟩:=hch
     split at hV
     ·cases hV
     rename_i vs2 orc2 h2
     split at hV
     ·cases hV
     ·rename_i vs3 orc3 h3
      cases hV
      obtain ⟨hv1,hv'⟩:=zAO.1 hv
      obtain ⟨hv2,hv3⟩:=zAO.1 hv'
      have A:=ih2 m L hcl R h3 hv3 hQ
      have sub: ∀ {j k:Nat},k∈xsJ xs nw j→k∈xsA xs nw:=fun {j k} hk=>by
       unfold xsJ at hk
       unfold xsA
       rcases List.mem_append.1 hk with hk | hk
       ·obtain ⟨p,p1,p2⟩:=List.mem_map.1 hk
        exact List.mem_append.2 (.inl (List.mem_map.2 ⟨p,(List.mem_filter.1 p1).1,p2⟩))
       ·exact List.mem_append.2 (.inr hk)
      have one: ∀ b,zL9 ops early b m (.ef i t alt) L=true→(Region.ready .any ops L).contains i=true→∃ m',m=m'+1∧zL9 ops early true m alt L=true∧wpOpIn F 0 P ops (NP Q) i (fun a' w'=>RZ ops (fun j=>early.contains j) (fun j=>Zs (xsJ xs nw j) ρ w) i w w'∧wpR F 0 P ops Q (RZ ops (fun j=>early.contains j) (fun j=>Zs (xsJ xs nw j) ρ w)) m' (L.setIfInBounds i true) a' w') a w:=by
       intro b hb hr
       cases m with
       | zero=>cases b <;> simp [zL9] at hb
       | succ m=>
        have hb':(!zLE ops i)=true∧zL9 ops early false m t (L.setIfInBounds i true)=true∧zL9 ops early true (m+1) alt L=true:=by
         cases b <;> simp only [zL9,Bool.and_eq_true] at hb <;> exact ⟨hb.1.1.2,hb.1.2,hb.2⟩
        obtain ⟨b1,b2,b3⟩:=hb'
        refine ⟨m,rfl,b3,?_⟩
        unfold wpOpIn
        simp only [ho]
        refine zQp hF R (zAu hnd ho) h1 hv1 fun ρ' a' w' R' st hdf hext hstore=>?_
        refine ⟨⟨fun hp=>(by rw [hp] at b1;cases b1),fun he=>?_⟩,?_⟩
        ·rcases hearly with (h | h) | h
         ·have he:early.contains i=true:=he
          rw [he] at h;cases h
         ·exact Upd.ofExt (hext h)
         ·split at h
          ·rename_i k hk
           refine (hstore k hk).mono fun b _ hb=>?_
           obtain ⟨q,q1,q2⟩:=hb
           exact .inl ⟨k,q,by simpa using h,q1,q2⟩
          ·cases h
        ·have T:=(ih1 m _ (zI5 hcl hr) R' h2 hv2 fun ρ2 a2 w2 q1 q2 q3 q4=>hQ ρ2 a2 w2 q1 (st.st.trans q2) (fun k p hk hp=>q3 k p hk (st.pl k p hp)) (q4.trans hdf)).1 b2
         refine zSG (fun j w1 w2 hR=>⟨hR.1,fun he=>(hR.2 he).mono fun b hb1 hb=>?_⟩) _ _ _ _ T
         rcases hb with ⟨k,q,k1,k2,k3⟩ | hb
         ·by_cases hk:k<ρ.length
          ·have e:=st.pl k _ (List.getElem?_eq_getElem hk)
           rw [e] at k2
           exact .inl ⟨k,q,k1,by rw [List.getElem?_eq_getElem hk];exact k2,k3⟩
          ·refine .inr ?_
           rw [R.hr.len] at hk
           rcases hkeep with hx | hx
           ·have:=List.all_eq_true.1 hx k (sub k1)
            simp only [decide_eq_true_eq] at this
            omega
           ·have hk':k<S1.h.length:=by rw [←R'.hr.len];exact (List.getElem?_eq_some_iff.1 k2).1
            have ha:=List.all_eq_true.1 hal1 k (sub k1)
            simp only [Bool.or_eq_true,decide_eq_true_eq] at ha
            rcases ha with ha | ha
            ·omega
            ·cases hg:S1.h.getD k none with
             | none=>rw [hg] at ha;cases ha
             | some ob=>
              rcases st.st.grow b ⟨k,ob,q,getD_some hg,k2,k3⟩ with ⟨i2,o2,p2,g1,g2,g3⟩ | h
              ·exfalso
               have hi2:=(List.getElem?_eq_some_iff.1 g1).1
               have hx2:=List.all_eq_true.1 hx i2 (List.mem_range.2 hi2)
               have e2:S.h.getD i2 none=some o2:=by rw [List.getD_eq_getElem?_getD,g1];rfl
               rw [e2] at hx2
               cases hg2:S1.h.getD i2 none with
               | none=>rw [hg2] at hx2;cases hx2
               | some ob2=>exact R'.hr.dis i2 k ob2 ob p2 q b (by omega) (getD_some hg2) (getD_some hg) (st.pl i2 p2 g2) k2 g3 k3
              ·exact h
         ·exact .inr (Nat.le_trans st.st.upd.size hb)
      refine ⟨fun h=>?_,fun h j hj hr=>?_⟩
      ·have hready:Region.ready .any ops L=i::zQt alt:=by
        cases m <;> simp only [zL9,Bool.and_eq_true,Bool.or_eq_true,beq_iff_eq,zQt,Bool.false_eq_true,false_or] at h
        exact h.1.1.1
       obtain ⟨m',e,ha,hw⟩:=one false h (by rw [hready];simp)
       subst e
       refine ⟨by rw [hready];simp,fun j hj=>?_⟩
       have hj2:=hj
       rw [hready] at hj
       rcases List.mem_cons.1 hj with rfl | hj
       ·exact hw
       ·obtain ⟨m2,e2,hw2⟩:=A.2 ha j hj hj2
        cases e2
        exact hw2
      ·rcases List.mem_cons.1 hj with rfl | hj
       ·obtain ⟨m',e,ha,hw⟩:=one true h (by simpa using hr)
        exact ⟨m',e,hw⟩
       ·have ha:zL9 ops early true m alt L=true:=by
         cases m <;> simp only [zL9,Bool.and_eq_true] at h
         ·cases h
         ·exact h.2
        exact A.2 ha j hj hr
    ·cases hV
theorem Tr.tree {F:Fence} {B:Option Nat} {L:Nat} {Y:zDD P Γ L} {Q:QY P Γ L} (hF:FOk F P) {id:Nat} {ops:Array Oper} {early:List Nat} {t:ST} {orc orc':Orc} {S':St} {vs:List Prop} (hm:P.follows .mixedOrders=true) (hB:TOk ops early t)
 (h:zdp P Γ ops early t S orc=some (S',vs,orc')) (hv:zDk vs) (hk:Q .normal S' Y):Tr P Γ F B L Y (.region id ops true) S Q:=fun N ρ a w R y m b=>by
 simp only [TOk,Bool.and_eq_true] at hB
 obtain ⟨⟨h1,h2⟩,h3⟩:=hB
 unfold zdp at h
 split at h
 ·cases h
 split at h
 ·cases h
 ·rename_i hV
  cases h
  have hE:Ext w w.drew:=Ext.toDrew w
  refine zNI hm ((zTo hF h3 h2 t ops.size _ zQi (R.ext hE) hV hv fun ρ' a' w' R' st hkp hdf=>?_).1 h1)
  have st':zCH S.h ρ w S'.h ρ' w':=(zCH.ext hE).trans st
  exact Tr.done R y m b hk R' st' (fun k p _ hp=>hkp k p (by rw [←R.hr.len];exact (List.getElem?_eq_some_iff.1 hp).1) hp) hdf
end
end Go.Proofs.YtekkngkphejfcaaGreatDoor
namespace Go.Proofs.YtekkngkphejfcaaGreatDoor
open Go.RowKit
inductive KI where
 | code (c:Code)
 | blk (id:Nat)
 | scp
 | lend (J:St→Prop)
 | loopN (m:Nat) (b:Code)
def RTr (P:Program) (Γ:Glo) (F:Fence) (B:Option Nat) (L:Nat) (b:Code) (Q:QY P Γ L):Nat→St→zDD P Γ L→Prop
 | 0,_,_=>False
 | m+1,S,Y=>Tr P Γ F B L Y b S (zVs (RTr P Γ F B L b Q m) Q)
theorem RTr.loop {P:Program} {Γ:Glo} {F:Fence} {B:Option Nat} {L:Nat} {Y:zDD P Γ L} {b:Code} {Q:QY P Γ L} {m:Nat} {S:St} (h:RTr P Γ F B L b Q m S Y):Tr P Γ F B L Y (.loop b) S Q:=by
 refine Tr.loop (fun m S Y=>RTr P Γ F B L b Q m S Y) m h fun m S Y hm=>?_
 cases m with
 | zero=>exact hm.elim
 | succ m=>
  refine Tr.mono hm fun e S' Y' hq=>?_
  cases e with
  | normal=>exact ⟨m,Nat.lt_succ_self m,hq⟩
  | _=>exact hq
def TrE (P:Program) (Γ:Glo) (F:Fence) (B:Option Nat) (L:Nat) (Q:QY P Γ L):List KI→QY P Γ L
 | [],e,S,Y=>Q e S Y
 | .code c::k,e,S,Y=>match e with
  | .normal=>Tr P Γ F B L Y c S (TrE P Γ F B L Q k)
  | e=>TrE P Γ F B L Q k e S Y
 | .blk id::k,e,S,Y=>match e with
  | .exit i=>if i=id then TrE P Γ F B L Q k .normal S Y else TrE P Γ F B L Q k (.exit i) S Y
  | e=>TrE P Γ F B L Q k e S Y
 | .scp::k,e,S,Y=>match e with
  | .goto _=>False
  | e=>TrE P Γ F B L Q k e S Y
 | .lend J::k,e,S,Y=>match e with
  | .normal=>J S
  | e=>TrE P Γ F B L Q k e S Y
 | .loopN m b::k,e,S,Y=>match e with
  | .normal=>RTr P Γ F B L b (TrE P Γ F B L Q k) m S Y
  | e=>TrE P Γ F B L Q k e S Y
def TrG (P:Program) (Γ:Glo) (F:Fence) (B:Option Nat) (L:Nat) (Y:zDD P Γ L) (Q:QY P Γ L) (k:List KI) (S:St):Prop:=TrE P Γ F B L Q k .normal S Y
def zdP {P:Program} {Γ:Glo} {L:Nat} (N:zDD P Γ L) (Q:Exit→St→Prop):QY P Γ L:=fun e S Y=>Y=N∧Q e S
abbrev TrK (P:Program) (Γ:Glo) (F:Fence) (B:Option Nat) (L:Nat) (N:zDD P Γ L) (Q:Exit→St→Prop) (k:List KI) (S:St):Prop:=TrG P Γ F B L N (zdP N Q) k S
def zLC (id:Nat):List KI→Option (List KI)
 | []=>none
 | .blk i::k=>if id=i then some k else zLC id k
 | _::k=>zLC id k
inductive zeE where
 | no
 | ord (st:List (List Nat×Nat)) (la ta:List Nat)
 | stop
 | tre (early:List Nat) (t:ST)
abbrev Sch:=Nat→zeE
def zeE.isStop:zeE→Bool
 | .stop=>true
 | _=>false
def zAA (i:Nat) (s:Sch):Sch:=fun j=>if j=i then .stop else s j
def SOk (ops:Array Oper) (steps:List (List Nat×Nat)) (last tail:List Nat):Prop:=(zV4 ops steps last tail&&zBP ops&&tail.all fun t=>decide (t<ops.size))=true
inductive KO where
 | at (k:List KI)
 | ret
def zET (P:Program) (Γ:Glo) (sch:Sch):Nat→List KI→St→Orc→Option (KO×St×List Prop×Orc)
 | 0,_,_,_=>none
 | n+1,k,S,o=>match k with
  | []=>some (.at [],S,[],o)
  | .blk _::k=>zET P Γ sch n k S o
  | .scp::k=>zET P Γ sch n k S o
  | .lend J::k=>some (.at (.lend J::k),S,[],o)
  | .loopN m b::k=>some (.at (.loopN m b::k),S,[],o)
  | .code c::k=>match c with
   | .skip=>zET P Γ sch n k S o
   | .seq a b=>zET P Γ sch n (.code a:: .code b::k) S o
   | .block id b=>zET P Γ sch n (.code b:: .blk id::k) S o
   | .scope b=>zET P Γ sch n (.code b:: .scp::k) S o
   | .label _=>zET P Γ sch n k S o
   | .exit id=>match zLC id k with
    | some k'=>zET P Γ sch n k' S o
    | none=>some (.at (.code (.exit id)::k),S,[],o)
   | .ret=>some (.ret,S,[],o)
   | .cond x a b=>match opd S.fr x with
    | .bool true=>zET P Γ sch n (.code a::k) S o
    | .bool false=>zET P Γ sch n (.code b::k) S o
    | _=>none
   | .region id ops dr=>if (sch id).isStop then some (.at (.code (.region id ops dr)::k),S,[],o) else match dr with
    | false=>if zBP ops then match zOI P Γ ops ops.toList S o with
     | none=>none
     | some (S',vs,o')=>match zET P Γ sch n k S' o' with
      | none=>none
      | some (r,S'',vs',o'')=>some (r,S'',vs++vs',o'')
     else none
    | true=>match sch id with
     | .no=>none
     | .stop=>none
     | .tre early t=>match zdp P Γ ops early t S o with
      | none=>none
      | some (S',vs,o')=>match zET P Γ sch n k S' o' with
       | none=>none
       | some (r,S'',vs',o'')=>some (r,S'',TOk ops early t::(vs++vs'),o'')
     | .ord st la ta=>match hseq P Γ ops st la ta S o with
      | none=>none
      | some (S',vs,o')=>match zET P Γ sch n k S' o' with
       | none=>none
       | some (r,S'',vs',o'')=>some (r,S'',SOk ops st la ta::(vs++vs'),o'')
   | c=>some (.at (.code c::k),S,[],o)
section
variable {P:Program} {Γ:Glo} {F:Fence} {B:Option Nat} {L:Nat} {Y:zDD P Γ L} {Q:QY P Γ L}
theorem zcE (hF:FOk F P) {S:St} {id:Nat} {ops:Array Oper} {orc orc':Orc} {S':St} {vs:List Prop} {Q:QY P Γ L} (hnd:zBP ops=true) (h:zOI P Γ ops ops.toList S orc=some (S',vs,orc')) (hv:zDk vs) (hk:Q .normal S' Y):Tr P Γ F B L Y (.region id ops false) S Q:=fun N ρ a w R y m b=>
 wpIn_region_list (zCF hF hnd _ (fun o ho=>by simpa using ho) R h hv fun ρ' a' w' R' st hdf=>Tr.done R y m b hk R' st.st (fun k p _ hp=>st.pl k p hp) hdf)
theorem zcC (hF:FOk F P) {S:St} {id:Nat} {ops:Array Oper} {steps:List (List Nat×Nat)} {last tail:List Nat} {orc orc':Orc} {S':St} {vs:List Prop} {Q:QY P Γ L} (hm:P.follows .mixedOrders=true) (hB:SOk ops steps last tail)
 (h:hseq P Γ ops steps last tail S orc=some (S',vs,orc')) (hv:zDk vs) (hk:Q .normal S' Y):Tr P Γ F B L Y (.region id ops true) S Q:=fun N ρ a w R y m b=>by
 simp only [SOk,Bool.and_eq_true] at hB
 obtain ⟨⟨h1,h2⟩,h3⟩:=hB
 have hE:Ext w w.drew:=Ext.toDrew w
 refine zIT hF.fn steps last tail hm (by simp only [Bool.and_eq_true];exact ⟨h1,h2⟩) (zMz hF h2 steps last tail h3 (R.ext hE) h hv fun ρ' a' w' R' st hdf=>?_)
 have st':zCH S.h ρ w S'.h ρ' w':=(zCH.ext hE).trans st.st
 exact Tr.done R y m b hk R' st' (fun k p _ hp=>st.pl k p hp) hdf
theorem zB7 {id:Nat} {S:St}: ∀ {k k':List KI},zLC id k=some k'→TrE P Γ F B L Q k' .normal S Y→TrE P Γ F B L Q k (.exit id) S Y
 | [],_,h,_=>by cases h
 | .blk i::k,k',h,hq=>by
  unfold zLC at h
  split at h
  ·rename_i e
   cases h
   subst e
   show (if id=id then _ else _)
   rw [if_pos rfl];exact hq
  ·rename_i e
   show (if id=i then _ else _)
   rw [if_neg e]
   exact zB7 h hq
 | .code c::k,k',h,hq=>zB7 (k:=k) h hq
 | .lend J::k,k',h,hq=>zB7 (k:=k) h hq
 | .scp::k,k',h,hq=>zB7 (k:=k) h hq
 | .loopN m b::k,k',h,hq=>zB7 (k:=k) h hq
theorem zGN {S:St} (h:Q .ret S Y): ∀ (k:List KI),TrE P Γ F B L Q k .ret S Y
 | []=>h
 | .blk _::k=>zGN h k
 | .code _::k=>zGN h k
 | .lend _::k=>zGN h k
 | .scp::k=>zGN h k
 | .loopN _ _::k=>zGN h k
def KOk (P:Program) (Γ:Glo) (F:Fence) (B:Option Nat) (L:Nat) (Y:zDD P Γ L) (Q:QY P Γ L):KO→St→Prop
 | .at k,S=>TrG P Γ F B L Y Q k S
 | .ret,S=>Q .ret S Y
theorem zAa (hF:FOk F P) (hm:P.follows .mixedOrders=true) {sch:Sch}: ∀ (n:Nat) (k:List KI) (S:St) (o:Orc) (r:KO) (S':St) (vs:List Prop) (o':Orc),zET P Γ sch n k S o=some (r,S',vs,o')→zDk vs→KOk P Γ F B L Y Q r S'→TrG P Γ F B L Y Q k S
 | 0,_,_,_,_,_,_,_,h,_,_=>by cases h
 | n+1,k,S,o,r,S',vs,o',h,hv,hk=>by
  unfold zET at h
  cases k with
  | nil=>cases h;exact hk
  | cons i k=>
   cases i with
   | blk id=>exact zAa hF hm n k S o r S' vs o' h hv hk
   | scp=>exact zAa hF hm n k S o r S' vs o' h hv hk
   | lend J=>cases h;exact hk
   | loopN m b=>cases h;exact hk
   | code c=>
    show Tr P Γ F B L Y c S (TrE P Γ F B L Q k)
    cases c with
    | skip=>exact Tr.skip (zAa hF hm n k S o r S' vs o' h hv hk)
    | seq a b=>
     refine Tr.seq (Tr.mono (zAa hF hm n (.code a:: .code b::k) S o r S' vs o' h hv hk) fun e S2 Y2 hq=>?_)
     cases e <;> exact hq
    | block id b=>
     refine Tr.block (Tr.mono (zAa hF hm n (.code b:: .blk id::k) S o r S' vs o' h hv hk) fun e S2 Y2 hq=>?_)
     cases e <;> exact hq
    | exit id=>
     simp only at h
     split at h
     ·rename_i k' hp
      exact Tr.exit (zB7 hp (zAa hF hm n k' S o r S' vs o' h hv hk))
     ·cases h;exact hk
    | ret=>cases h;exact Tr.ret (zGN hk k)
    | cond x a b=>
     simp only at h
     split at h
     ·rename_i hc
      exact Tr.cond hc (fun _=>zAa hF hm n (.code a::k) S o r S' vs o' h hv hk) (fun e=>by cases e)
     ·rename_i hc
      exact Tr.cond hc (fun e=>by cases e) (fun _=>zAa hF hm n (.code b::k) S o r S' vs o' h hv hk)
     ·cases h
    | region id ops dr=>
     simp only at h
     split at h
     ·cases h;exact hk
     ·cases dr with
      | false=>
       simp only at h
       split at h
       ·rename_i hnd
        split at h
        ·cases h
        ·rename_i S1 vs1 o1 h1
         split at h
         ·cases h
         ·rename_i r2 S2 vs2 o2 h2
          cases h
          obtain ⟨hv1,hv2⟩:=zAO.1 hv
          exact zcE hF hnd h1 hv1 (zAa hF hm n k S1 o1 _ _ _ _ h2 hv2 hk)
       ·cases h
      | true=>
       simp only at h
       split at h
       ·cases h
       ·cases h
       ·rename_i early t hs
        split at h
        ·cases h
        ·rename_i S1 vs1 o1 h1
         split at h
         ·cases h
         ·rename_i r2 S2 vs2 o2 h2
          cases h
          obtain ⟨hv0,hv'⟩:=hv
          obtain ⟨hv1,hv2⟩:=zAO.1 hv'
          exact Tr.tree hF hm hv0 h1 hv1 (zAa hF hm n k S1 o1 _ _ _ _ h2 hv2 hk)
       ·rename_i st la ta hs
        split at h
        ·cases h
        ·rename_i S1 vs1 o1 h1
         split at h
         ·cases h
         ·rename_i r2 S2 vs2 o2 h2
          cases h
          obtain ⟨hv0,hv'⟩:=hv
          obtain ⟨hv1,hv2⟩:=zAO.1 hv'
          exact zcC hF hm hv0 h1 hv1 (zAa hF hm n k S1 o1 _ _ _ _ h2 hv2 hk)
    | loop b=>cases h;exact hk
    | rangeFunc f ps asg bd=>cases h;exact hk
    | scope b=>
     refine Tr.scope (Tr.mono (zAa hF hm n (.code b:: .scp::k) S o r S' vs o' h hv hk) fun e S2 Y2 hq=>?_)
     cases e <;> exact hq
    | label l=>exact Tr.label (zAa hF hm n k S o r S' vs o' h hv hk)
    | goto l=>cases h;exact hk
    | refuse w=>cases h;exact hk
theorem TrG.weaken {k:List KI} {S S':St} (hS:SLe L S S') (h:TrG P Γ F B L Y Q k S') (hk: ∃ c k',k= .code c::k'):TrG P Γ F B L Y Q k S:=by
 obtain ⟨c,k',rfl⟩:=hk
 exact Tr.weaken hS h
def zLU:List KI→Bool
 | .code (.loop _)::_=>true
 | _=>false
def zD4 (k:List KI):List KI:=match k with
 | _::rest=>rest
 | []=>[]
def zQV (id:Nat):List Nat→Code→List KI→Option (List KI)
 | ms,.seq a b,k=>match zQV id ms a (.code b::k) with
  | some r=>some r
  | none=>zQV id ms b k
 | ms,.cond _ a b,k=>match zQV id ms a k with
  | some r=>some r
  | none=>zQV id ms b k
 | ms,.block i c,k=>if i=id then some (.code c:: .blk i::k) else zQV id ms c (.blk i::k)
 | ms,.scope c,k=>zQV id ms c (.scp::k)
 | m::ms,.loop b,k=>zQV id ms b (.loopN m b::k)
 | _,_,_=>none
def zQW (id:Nat):List Nat→Code→List KI→Option (List KI)
 | ms,.seq a b,k=>match zQW id ms a (.code b::k) with
  | some r=>some r
  | none=>zQW id ms b k
 | ms,.cond _ a b,k=>match zQW id ms a k with
  | some r=>some r
  | none=>zQW id ms b k
 | ms,.block i c,k=>zQW id ms c (.blk i::k)
 | ms,.scope c,k=>zQW id ms c (.scp::k)
 | m::ms,.loop b,k=>zQW id ms b (.loopN m b::k)
 | _,.region i ops dr,k=>if i=id then some (.code (.region i ops dr)::k) else none
 | _,_,_=>none
def toN (m:Nat) (k:List KI):List KI:=match k with
 | .code (.loop b)::rest=>.loopN m b::rest
 | _=>[]
def unN (m:Nat) (k:List KI):List KI:=match k with
 | .code (.loop b)::rest=>.code b:: .loopN m b::rest
 | _=>[]
def start (f:Func):List KI:=match f.body with
 | some c=>[.code c]
 | none=>[]
def zGo (c:Code) (id:Nat):Array Oper:=match c with
 | .region i ops _=>if i=id then ops else #[]
 | .seq a b=>let x:=zGo a id;if x.size=0 then zGo b id else x
 | .cond _ a b=>let x:=zGo a id;if x.size=0 then zGo b id else x
 | .block _ c=>zGo c id
 | .loop c=>zGo c id
 | .scope c=>zGo c id
 | .rangeFunc _ _ a b=>let x:=zGo a id;if x.size=0 then zGo b id else x
 | _=>#[]
def zBa (f:Func) (id:Nat):Array Oper:=match f.body with
 | some c=>zGo c id
 | none=>#[]
theorem TrK.enter {k:List KI} {S:St} (m:Nat) (hk:zLU k=true) (h:TrG P Γ F B L Y Q (toN m k) S):TrG P Γ F B L Y Q k S:=by
 unfold zLU at hk
 split at hk
 ·exact RTr.loop h
 ·cases hk
theorem TrK.round {k:List KI} {S:St} {n m:Nat} (hm:n+1≤m) (hk:zLU k=true) (h: ∀ m,n≤m→TrG P Γ F B L Y Q (unN m k) S):TrG P Γ F B L Y Q (toN m k) S:=by
 cases m with
 | zero=>omega
 | succ m=>
  have h:=h m (Nat.le_of_succ_le_succ hm)
  unfold zLU at hk
  split at hk
  ·refine Tr.mono h fun e S' Y' hq=>?_
   cases e <;> exact hq
  ·cases hk
def frm (n:Nat) (l:List (Nat×DV)):List DV:=(List.range n).map fun i=>match l.find? (fun x=>x.1==i) with
 | some x=>x.2
 | none=>.any
theorem Fin.le {fn:Func} {d:DV} {h':DH} {e:Exit} {S S':St} (hS:SLe L S S') (h:Fin P fn L d h' e S'):Fin P fn L d h' e S:=by
 obtain ⟨he,S'',h1,h2⟩:=h
 exact ⟨he,S'',hS.trans h1,h2⟩
theorem ES.of_trk {f:Nat} {fn:Func} {ds:List DV} {h:DH} {d:DV} {h':DH} {ext:Bool} (hf:P.funcs[f]? =some fn) (hb:fn.body.isSome=true) (hname:(fn.name== "runtime.NumGoroutine")=false) (hni:zPy h') (hext:ext=true→h= [])
 (H: ∀ (B:Nat) (N:zDD P Γ h.length),TrK P Γ Fence.wide (some B) h.length N (Fin P fn h.length d h') (start fn) ⟨ds++List.replicate (fn.ntmps-ds.length) .any,h⟩):ES P Γ f ds h d h' ext:=by
 cases hc:fn.body with
 | none=>rw [hc] at hb;cases hb
 | some c=>
  refine ES.of_tr hf hc (by simpa using hname) hni (fun B N=>?_) hext
  have:=H B N
  unfold start at this
  rw [hc] at this
  refine Tr.mono this fun e S Y hq=>?_
  cases e <;> exact hq
def zIr:DV→Bool
 | .mse .. =>false
 | .mri .. =>false
 | .ref .. =>false
 | .msl .. =>false
 | .mp .. =>false
 | .it _=>false
 | .agg m f=>(List.range m).all fun j=>zIr (f j)
 | .tup m f=>(List.range m).all fun j=>zIr (f j)
 | .fn _ m f=>(List.range m).all fun j=>zIr (f j)
 | _=>true
theorem zGU: ∀ {d:DV},zIr d=true→zVm d:=by
 intro d
 induction d with
 | any=>exact fun _ _ _ _ _ _=>trivial
 | nils=>exact fun _ _ _ _ _ h=>h
 | int k n=>exact fun _ _ _ _ _ h=>h
 | bool b=>exact fun _ _ _ _ _ h=>h
 | str s=>exact fun _ _ _ _ _ h=>h
 | ints l=>exact fun _ _ _ _ _ h=>h
 | bools l=>exact fun _ _ _ _ _ h=>h
 | sl m n f _=>exact fun _ _ _ _ _ h=>h
 | fp m f _=>exact fun _ _ _ _ _ h=>h
 | agg m f ih=>exact fun hb=>zVm.agg fun j hj=>ih j (List.all_eq_true.1 hb j (List.mem_range.2 hj))
 | tup m f ih=>exact fun hb=>zVm.tup fun j hj=>ih j (List.all_eq_true.1 hb j (List.mem_range.2 hj))
 | ref k j=>exact fun hb=>by cases hb
 | msl k m o n=>exact fun hb=>by cases hb
 | mp k m i j=>exact fun hb=>by cases hb
 | fn g m c ih=>exact fun hb M w ρ v ⟨cs,e,hs,hc⟩=>⟨cs,e,hs,fun j hj=>let ⟨u,h1,h2⟩:=hc j hj;⟨u,h1,ih j (List.all_eq_true.1 hb j (List.mem_range.2 hj)) M w ρ u h2⟩⟩
 | it k=>exact fun hb=>by cases hb
 | yl l=>exact fun _ _ _ _ _ h=>h
 | cst u=>exact fun _ _ _ _ _ h=>h
 | mse k m o n=>exact fun hb=>by cases hb
 | mri k i=>exact fun hb=>by cases hb
theorem ES.frameB {f:Nat} {ds:List DV} {d:DV} (h0:ES P Γ f ds [] d [] true) (h:DH) (hds:ds.all zIr=true):ES P Γ f ds h d h true:=h0.frame (fun x hx=>zGU (List.all_eq_true.1 hds x hx)) h
def zZH:DV→Bool
 | .int .. =>true
 | .bool _=>true
 | .tup m f=>(List.range m).all fun j=>match f j with
  | .int .. =>true
  | .bool _=>true
  | _=>false
 | _=>false
theorem zZG {d:DV} (h:zZH d=true):zTj d:=by
 unfold zZH at h
 split at h
 ·exact zTj.int _ _
 ·exact zTj.bool _
 ·rename_i m f
  refine zTj.tup fun j hj=>?_
  have:=List.all_eq_true.1 h j (List.mem_range.2 hj)
  split at this
  ·rename_i e;rw [e];exact zTj.int _ _
  ·rename_i e;rw [e];exact zTj.bool _
  ·cases this
 ·cases h
def zGI (h:DH):List DV→List DV→Prop
 | [],[]=>True
 | d::ds,d0::ds0=>zA1 h d d0∧zGI h ds ds0
 | _,_=>False
theorem zDX {h:DH}: ∀ {ds ds0:List DV},zGI h ds ds0→ds0.length=ds.length∧∀ i,i<ds.length→zA1 h (ds.getD i .any) (ds0.getD i .any)
 | [],[],_=>⟨rfl,fun i hi=>absurd hi (Nat.not_lt_zero i)⟩
 | d::ds,d0::ds0,⟨h1,h2⟩=>by
  obtain ⟨e,g⟩:=zDX h2
  refine ⟨by simp [e],fun i hi=>?_⟩
  cases i with
  | zero=>exact h1
  | succ i=>exact g i (by simpa using hi)
 | [],_::_,h=>h.elim
 | _::_,[],h=>h.elim
theorem zA1.plain {h:DH} {d:DV} (hn:zIr d=true):zA1 h d d:=zA1.nref (zGU hn)
theorem ES.snapB {f:Nat} {ds ds0:List DV} {d:DV} (h0:ES P Γ f ds0 [] d [] true) (h:DH) (hs:zGI h ds ds0) (hd:zZH d=true):ES P Γ f ds h d h true:=ES.snap h0 h (zDX hs).1 (zDX hs).2 (zZG hd)
theorem DLe.of_eq {d d':DV} (h:d=d'):DLe d d':=by rw [h];exact DLe.refl _
theorem zLY {M:Nat→Prop} {w:World} {ρ:List zAJ} {v:Value} {l:List Int} (h:zAU M w (.ints l) ρ v):l.length≤LB:=let ⟨_,_,_,_,h,_⟩:=h;h
theorem wrC {x c:Int} (h1:x=c) (h2: -9223372036854775808≤c) (h3:c≤9223372036854775807):IntKind.i64.wrap x=c:=by
 subst h1;rw [IntKind.wrap_i64];omega
end
end Go.Proofs.YtekkngkphejfcaaGreatDoor
namespace Go.Proofs.YtekkngkphejfcaaGreatDoor
open Go.RowKit
def Tab (w:World):Prop:=TabAt 1 Lib.deBruijn64tab w
def GG:Glo where
 ng:=2
 gi:=fun w=>Tab w∧2≤w.heap.size
 st:=fun w w' h hu=>⟨fun j hj=>hu.cell (by show ¬ (2≤1);omega) (h.1 j hj),Nat.le_trans h.2 hu.size⟩
 lo:=fun w h=>h.2
end Go.Proofs.YtekkngkphejfcaaGreatDoor
namespace Go.Proofs.YtekkngkphejfcaaGreatDoor
open Go.RowKit
theorem zAv {α:Type} {c:Prop} [Decidable c] {a:Option α} {r:α} (h:(if c then a else none)=some r):c∧a=some r:=by
 split at h
 ·exact ⟨by assumption,h⟩
 ·cases h
theorem zTb {α β:Type} {o:Option β} {f:β→Option α} {r:α} (h:o.bind f=some r): ∃ v,o=some v∧f v=some r:=by
 cases o with
 | none=>cases h
 | some v=>exact ⟨v,rfl,h⟩
theorem zFI {α:Type} {b:Bool} {x y:Option α} {r:α} (h:(bif b then x else y)=some r):(b=true∧x=some r)∨(b=false∧y=some r):=by
 cases b
 ·exact .inr ⟨rfl,h⟩
 ·exact .inl ⟨rfl,h⟩
def zeR:Int→Bool
 | .ofNat n=>Nat.ble n 9223372036854775807
 | .negSucc n=>Nat.ble n 9223372036854775807
def R64 (x:Int):Prop:=zeR x=true
instance (x:Int):Decidable (R64 x):=by unfold R64;infer_instance
theorem zAG {x:Int}:R64 x↔-9223372036854775808≤x∧x≤9223372036854775807:=by
 unfold R64
 cases x with
 | ofNat n=>
  show Nat.ble n 9223372036854775807=true↔_
  rw [Nat.ble_eq]
  simp only [Int.ofNat_eq_natCast]
  omega
 | negSucc n=>
  show Nat.ble n 9223372036854775807=true↔_
  rw [Nat.ble_eq]
  omega
theorem zeO {x:Int} (h:R64 x):DLe (.int .i64 (IntKind.i64.wrap x)) (.int .i64 x):=DLe.int (wrC rfl (zAG.1 h).1 (zAG.1 h).2)
def comp (live σ:List Nat) (S:St):St:=zBJ σ ⟨forget live S.fr,S.h⟩
def zZF (σ:List Nat) (L n:Nat):Bool:=decide σ.Nodup&&σ.all (fun k=>decide (k<n))&&(List.range L).all fun k=>decide (σ[k]? =some k)
theorem SLe.comp {L:Nat} (live σ:List Nat) (S:St) (h:zZF σ L S.h.length=true):SLe L S (comp live σ S):=by
 simp only [zZF,Bool.and_eq_true,decide_eq_true_eq,List.all_eq_true,List.mem_range] at h
 exact (SLe.forget live S.fr S.h).trans (SLe.compact σ _ h.1.1 (fun k hk=>h.1.2 k hk) (fun k hk=>h.2 k hk))
def zcr (live σ:List Nat) (L:Nat) (r:KO×St×List Prop×Orc):KO×List DV×DH×List Prop×List (DV×DH×Bool)×List (Nat×DV)×Bool:=(r.1,(Proofs.YtekkngkphejfcaaGreatDoor.comp live σ r.2.1).fr,(Proofs.YtekkngkphejfcaaGreatDoor.comp live σ r.2.1).h,r.2.2.1,r.2.2.2.calls,r.2.2.2.co,zZF σ L r.2.1.h.length)
section
variable {P:Program} {Γ:Glo} {F:Fence} {B:Option Nat} {L:Nat} {Y N:zDD P Γ L} {Q:QY P Γ L}
theorem zXP {sch:Sch} {n:Nat} {k:List KI} {S:St} {o:Orc} {live σ:List Nat} {r:KO} {fr:List DV} {h':DH} {vs:List Prop} (h:(zET P Γ sch n k S o).map (zcr live σ L)=some (r,fr,h',vs,[],[],true)):
 ∃ S' o',zET P Γ sch n k S o=some (r,S',vs,o')∧SLe L S' ⟨fr,h'⟩:=by
 cases hr:zET P Γ sch n k S o with
 | none=>rw [hr] at h;cases h
 | some r=>
  obtain ⟨r1,S1,vs1,⟨c1,o1,z1,g1⟩⟩:=r
  rw [hr] at h
  simp only [Option.map_some,zcr,Option.some.injEq,Prod.mk.injEq] at h
  obtain ⟨rfl,rfl,rfl,rfl,rfl,rfl,hs⟩:=h
  exact ⟨S1,_,rfl,SLe.comp live σ S1 hs⟩
def zFz:List KI→Bool
 | .code _::_=>true
 | .loopN _ _::_=>true
 | _=>false
theorem RTr.weaken {b:Code} {m:Nat} {S S':St} (hS:SLe L S S') (h:RTr P Γ F B L b Q m S' Y):RTr P Γ F B L b Q m S Y:=by
 cases m with
 | zero=>exact h.elim
 | succ m=>exact Tr.weaken hS h
theorem TrK.le {k:List KI} {S S':St} (hS:SLe L S S') (hc:zFz k=true) (h:TrG P Γ F B L Y Q k S'):TrG P Γ F B L Y Q k S:=by
 unfold zFz at hc
 split at hc
 ·exact TrG.weaken hS h ⟨_,_,rfl⟩
 ·exact RTr.weaken hS h
 ·cases hc
theorem SLe.frzE {S:St} (k:Nat) (S':St) (vs:List Prop) (h:zc8 k S=some (S',vs)) (hv:zDk vs):SLe L S S':=fun P Γ N ρ a w R=>
 ⟨ρ,(SLp.frzE k S' vs h hv P Γ N ρ a w R).1,(SLp.frzE k S' vs h hv P Γ N ρ a w R).2,zMK.refl _ _⟩
theorem SLe.compE {S:St} (σ:List Nat) (h:zZF σ L S.h.length=true):SLe L S (zBJ σ S):=by
 simp only [zZF,Bool.and_eq_true,decide_eq_true_eq,List.all_eq_true,List.mem_range] at h
 exact SLe.compact σ _ h.1.1 (fun k hk=>h.1.2 k hk) (fun k hk=>h.2 k hk)
def zRc:Option DO→Bool
 | some (.iter _)=>false
 | _=>true
theorem zXZ {h:DH} (hb:h.all zRc=true):zPy h:=fun k encs hk=>by
 have:=List.all_eq_true.1 hb _ (List.mem_of_getElem? hk)
 cases this
theorem zA1.refL {h:DH} {k:Nat} {l l0:List DV} (hk:h[k]? =some (some (.cells l))) (hs:zGI h l l0):zA1 h (.ref k 0) (.fp l.length (fun j=>l0.getD j .any)):=
 zA1.ref hk (Nat.le_refl _) fun j hj=>(zDX hs).2 j hj
theorem zA1.fnL {h:DH} {g:Nat} {l l0:List DV} (hs:zGI h l l0):zA1 h (.fn g l.length (fun j=>l.getD j .any)) (.fn g l.length (fun j=>l0.getD j .any)):=by
 rintro P Γ N ρ w v H ⟨lb,e,hl,hc⟩
 exact ⟨lb,e,hl,fun j hj=>let ⟨u,h1,h2⟩:=hc j hj;⟨u,h1,(zDX hs).2 j hj P Γ N ρ w u H h2⟩⟩
theorem DLe.ixI (l:List Int) {n:Int} {m:Nat} (hm:m=l.length) (h:(0:Int)≤n∧n<((m:Nat):Int)):DLe ((l.map (DV.int .i64)).getD n.toNat .any) (.int .i64 (l.getD n.toNat 0)):=by
 subst hm
 have hl:n.toNat<l.length:=by omega
 have:(l.map (DV.int .i64)).getD n.toNat .any= .int .i64 (l.getD n.toNat 0):=by simp [hl]
 rw [this];exact DLe.refl _
theorem DLe.mslN {k m o n n':Nat} (h:n=n'):DLe (.msl k m o n) (.msl k m o n'):=by rw [h];exact DLe.refl _
def zeQ:DO→Bool
 | .ints _=>true
 | .bools _=>true
 | _=>false
theorem ES.snapNew {f:Nat} {ds ds0:List DV} {m n:Nat} {o:DO} (h0:ES P Γ f ds0 [] (.msl 0 m 0 n) [some o] true) (h:DH) (hs:zGI h ds ds0) (ho:zeQ o=true):ES P Γ f ds h (.msl h.length m 0 n) (h++[some o]) true:=by
 obtain ⟨hl,hs⟩:=zDX hs
 refine ⟨h0.1,fun N ρ w args HR hargs=>?_⟩
 refine (h0.2 (fun _=>False) [] w args (zGa (fun b hb=>hb.elim) HR.gi) ⟨by rw [hl];exact hargs.1,fun i hi=>?_⟩).mono ?_
 ·rw [hl] at hi
  exact zAU.out _ (zA7 (fun b hb=>zL7.1 hb) []) (hs i hi P Γ N ρ w _ HR (hargs.2 i hi))
 ·rintro e w' ⟨v,rfl,⟨⟨ρ',g1,g2,g3,g4⟩,g5⟩⟩
  have hE:=g5 rfl
  obtain ⟨p,hp,hob⟩:=g1.obj 0 o rfl
  have hf: ∀ b,p.foot b→w.heap.size≤b:=fun b hb=>(g3.grow b ⟨0,o,p,rfl,hp,hb⟩).resolve_left fun ⟨k,o',p',q1,_⟩=>by simp at q1
  obtain ⟨p',cap,hp',e1,e2,e3,e4⟩:=g2
  have ep:p'=p:=Option.some.inj (hp'.symm.trans hp)
  subst ep
  refine ⟨v,rfl,⟨⟨ρ++[p'],HR.snoc hE (fun b hb=>⟨hf b hb,(g1.cel 0 o p' b rfl hp hb).2.2⟩) ?_,⟨p',cap,by rw [←HR.len];simp,e1,e2,e3,e4⟩,zCH.snoc HR hE hf,fun _ _ h=>zAR h⟩,g5⟩⟩
  cases o with
  | ints l=>exact zAP.out hob rfl fun j u _ hu=>hu
  | bools l=>exact zAP.out hob rfl fun j u _ hu=>hu
  | cells l=>cases ho
  | arr m n f=>cases ho
  | iter encs=>cases ho
  | mo x=>cases ho
theorem zFJ {h:DH}: ∀ {ds:List DV},ds.all zIr=true→zGI h ds ds
 | [],_=>trivial
 | d::ds,hd=>by
  simp only [List.all_cons,Bool.and_eq_true] at hd
  exact ⟨zA1.plain hd.1,zFJ hd.2⟩
theorem DLe.aggL {m:Nat} {l l':List DV} (hm:m=l.length) (h:zQu l l'):DLe (.agg m (fun j=>l.getD j .any)) (.agg m (fun j=>l'.getD j .any)):=by
 subst hm
 rintro M w ρ v ⟨cs,e,hs,hc⟩
 exact ⟨cs,e,hs,fun j hj=>let ⟨u,h1,h2⟩:=hc j hj;⟨u,h1,(zIQ h).2 j hj M w ρ u h2⟩⟩
theorem DLe.tupL {m:Nat} {l l':List DV} (hm:m=l.length) (h:zQu l l'):DLe (.tup m (fun j=>l.getD j .any)) (.tup m (fun j=>l'.getD j .any)):=by
 subst hm
 rintro M w ρ v ⟨cs,e,hs,hc⟩
 exact ⟨cs,e,hs,fun j hj=>let ⟨u,h1,h2⟩:=hc j hj;⟨u,h1,(zIQ h).2 j hj M w ρ u h2⟩⟩
theorem zA1.dle {h:DH} {d d0:DV} (hn:zIr d=true) (hd:DLe d d0):zA1 h d d0:=fun P Γ N ρ w v H hr=>hd _ _ _ _ ((zA1.nref (zGU hn)) P Γ N ρ w v H hr)
theorem ES.argsLe {f:Nat} {ds ds0:List DV} {h h':DH} {d:DV} {ext:Bool} (h0:ES P Γ f ds0 h d h' ext) (hd:zQu ds ds0):ES P Γ f ds h d h' ext:=by
 obtain ⟨hl,hd⟩:=zIQ hd
 exact ⟨h0.1,fun N ρ w args HR hargs=>h0.2 N ρ w args HR ⟨by rw [←hl];exact hargs.1,fun i hi=>hd i (by omega) _ _ _ _ (hargs.2 i (by omega))⟩⟩
theorem DLe.mse_msl {k m o n n':Nat} (h:0<n) (e:n=n'):DLe (.mse k m o n) (.msl k m o n'):=by
 subst e
 rintro M w ρ v ⟨p,a,cap,hp,rfl,h1,h2,h3⟩
 obtain ⟨rfl,h4⟩:=h3 (by omega)
 exact ⟨p,cap,hp,rfl,h1,h2,h4⟩
theorem DLe.mse_nil {k m o n:Nat} (h:n=0):DLe (.mse k m o n) (.ints []):=by
 subst h
 rintro M w ρ v ⟨p,a,cap,hp,rfl,h1,h2,h3⟩
 exact ⟨a,cap,rfl,Nat.zero_le _,Nat.zero_le _,fun j hj=>absurd hj (Nat.not_lt_zero j)⟩
theorem zUX {n:Nat} (h:(n==0)=false):0<n:=by
 have:n≠0:=by simpa using h
 omega
def zPH (k off k':Nat):DV→DV
 | .msl k1 m o n=>if k1=k∧m=1∧o=off then .msl k' 1 0 n else .msl k1 m o n
 | d=>d
def zcj (k off:Nat) (S:St):Option (St×List Prop):=match S.h.getD k none with
 | some (.ints l)=>some (⟨S.fr.map (zPH k off S.h.length),S.h.set k none++[some (.ints (l.drop off))]⟩,[off≤l.length])
 | _=>none
theorem SLe.rootE {S:St} (k off:Nat) (S':St) (vs:List Prop) (h:zcj k off S=some (S',vs)) (hv:zDk vs):SLe L S S':=fun P Γ N ρ a w R=>by
 unfold zcj at h
 split at h
 ·rename_i l hl
  cases h
  have hv:=hv.1
  have hk:=getD_some hl
  obtain ⟨p,hp,hr⟩:=R.hr.obj k _ hk
  have hr:zAP w p l.length _:=hr
  obtain ⟨hf,cs,t,c1,c2,c3,c4⟩:=hr
  let p':zAJ:={ p with off:=p.off+off }
  obtain ⟨g1,g2⟩:=R.hr.regrow (o':=.ints (l.drop off)) (p':=p') hk hp (Upd.refl _ _) (fun b hb=>⟨.inl hb,(R.hr.cel k _ p b hk hp hb).2.2⟩) (by
   refine ⟨hf,cs,t,c1,?_,c3,fun j hj=>?_⟩
   ·simp only [List.length_drop,p'];omega
   ·rw [List.length_drop] at hj
    obtain ⟨u,q1,q2⟩:=c4 (off+j) (by omega)
    refine ⟨u,by rw [←q1];simp only [p',Nat.add_assoc],?_⟩
    rw [q2]
    simp [List.getD_eq_getElem?_getD,List.getElem?_drop])
  have O:zDW (MS N S.h ρ) w ρ (MS N (S.h.set k none++[some (.ints (l.drop off))]) (ρ++[p'])) w (ρ++[p']):=⟨fun _ _ _ _=>rfl,fun b hb=>hb.elim (fun h=>.inl (.inl h)) fun h=>(g2.grow b h).imp .inr id,fun _ _ h=>zAR h⟩
  refine ⟨ρ++[p'],⟨g1,by simp [R.fr.1],fun i hi=>?_⟩,g2,fun _ _ _ h=>zAR h⟩
  have hi':i<S.fr.length:=by simpa using hi
  have e:(S.fr.map (zPH k off S.h.length)).getD i .any=zPH k off S.h.length (S.fr.getD i .any):=by simp [hi']
  show zAU _ w ((S.fr.map (zPH k off S.h.length)).getD i .any) _ _
  rw [e]
  have r0:=R.fr.2 i hi'
  cases hd:S.fr.getD i .any with
  | msl k1 m o n=>
   rw [hd] at r0
   by_cases hc:k1=k∧m=1∧o=off
   ·have e2:zPH k off S.h.length (.msl k1 m o n)= .msl S.h.length 1 0 n:=by simp only [zPH,if_pos hc]
    rw [e2]
    obtain ⟨h1,h2,h3⟩:=hc
    rw [h1,h2,h3] at r0
    obtain ⟨q,cap,hq,hu,u1,u2,u3⟩:=r0
    have eq:q=p:=Option.some.inj (hq.symm.trans hp)
    subst eq
    exact ⟨p',cap,by rw [←R.hr.len];simp,by rw [hu];simp [p'],u1,u2,by simp only [p'];omega⟩
   ·have e2:zPH k off S.h.length (.msl k1 m o n)= .msl k1 m o n:=by simp only [zPH,if_neg hc]
    rw [e2]
    exact zAU.out _ O r0
  | _=>rw [hd] at r0;exact zAU.out _ O r0
 ·cases h
end
end Go.Proofs.YtekkngkphejfcaaGreatDoor
namespace Go.Proofs.YtekkngkphejfcaaGreatDoor
open Go.RowKit
def upk (σ:List Nat) (b k:Nat):Nat:=if k<σ.length then σ.getD k 0 else b+(k-σ.length)
def up (σ:List Nat) (b:Nat):DV→DV
 | .ref k j=>.ref (upk σ b k) j
 | .msl k m o n=>.msl (upk σ b k) m o n
 | .mse k m o n=>.mse (upk σ b k) m o n
 | .mri k i=>.mri (upk σ b k) i
 | .mp k m i j=>.mp (upk σ b k) m i j
 | .it k=>.it (upk σ b k)
 | .agg m f=>.agg m (tab m fun j=>up σ b (f j))
 | .tup m f=>.tup m (tab m fun j=>up σ b (f j))
 | .fn g m c=>.fn g m (tab m fun j=>up σ b (c j))
 | d=>d
def upO (σ:List Nat) (b:Nat):Option DO→Option DO
 | some (.cells l)=>some (.cells (l.map (up σ b)))
 | o=>o
def zQz (H:DH) (σ:List Nat) (h':DH):DH:=((List.range H.length).map fun k=>match zKp σ k with
 | some i=>upO σ H.length (h'.getD i none)
 | none=>H.getD k none)++(h'.drop σ.length).map (upO σ H.length)
theorem zNg {σ:List Nat} (hn:σ.Nodup) {i k:Nat} (h:σ[i]? =some k):zKp σ k=some i:=by
 induction σ generalizing i with
 | nil=>simp at h
 | cons x σ ih=>
  unfold zKp
  cases i with
  | zero=>
   have:x=k:=by simpa using h
   rw [if_pos this]
  | succ i=>
   have h':σ[i]? =some k:=by simpa using h
   have hne:x≠k:=by
    rintro rfl
    exact (List.nodup_cons.1 hn).1 (List.mem_of_getElem? h')
   rw [if_neg hne,ih (List.nodup_cons.1 hn).2 h']
   rfl
theorem zNJ {σ:List Nat} {b:Nat} {x:Option DO} {o:DO} (h:upO σ b x=some o): ∃ o0,x=some o0:=by
 cases x with
 | none=>cases h
 | some o0=>exact ⟨o0,rfl⟩
section
variable {P:Program} {Γ:Glo}
theorem za6 {M M':Nat→Prop} {w:World} {σ:List Nat} {b:Nat} {ρ ρ':List zAJ} (hM: ∀ b,M' b→M b) (hρ: ∀ (k:Nat) (p:zAJ),ρ[k]? =some p→ρ'[upk σ b k]? =some p): ∀ (d:DV) {v:Value},zAU M w d ρ v→zAU M' w (up σ b d) ρ' v:=by
 have low: ∀ (d:DV) {v:Value},zAU M w d [] v→zAU M' w d [] v:=fun d v h=>h.out d (zA7 hM [])
 intro d
 induction d with
 | any=>intro v _;trivial
 | nils=>intro v h;exact h
 | int k n=>intro v h;exact h
 | bool b=>intro v h;exact h
 | str s=>intro v h;exact h
 | ints l=>intro v h;exact low (.ints l) h
 | bools l=>intro v h;exact low (.bools l) h
 | sl m n f _=>intro v h;exact low (.sl m n f) h
 | fp m f _=>intro v h;exact low (.fp m f) h
 | agg m f ih=>
  rintro v ⟨cs,e,hs,h⟩
  exact ⟨cs,e,hs,fun j hj=>let ⟨u,h1,h2⟩:=h j hj;⟨u,h1,zFX hj (ih j h2)⟩⟩
 | tup m f ih=>
  rintro v ⟨cs,e,hs,h⟩
  exact ⟨cs,e,hs,fun j hj=>let ⟨u,h1,h2⟩:=h j hj;⟨u,h1,zFX hj (ih j h2)⟩⟩
 | fn g m c ih=>
  rintro v ⟨cs,e,hs,h⟩
  exact ⟨cs,e,hs,fun j hj=>let ⟨u,h1,h2⟩:=h j hj;⟨u,h1,zFX hj (ih j h2)⟩⟩
 | ref k j=>rintro v ⟨p,hp,r⟩;exact ⟨p,hρ k p hp,r⟩
 | msl k m o n=>rintro v ⟨p,cap,hp,r⟩;exact ⟨p,cap,hρ k p hp,r⟩
 | mp k m i j=>rintro v ⟨p,hp,r⟩;exact ⟨p,hρ k p hp,r⟩
 | it k=>rintro v ⟨p,hp,r⟩;exact ⟨p,hρ k p hp,r⟩
 | cst u=>intro v h;exact h
 | yl l=>intro v h;exact h
 | mse k m o n=>rintro v ⟨p,a,cap,hp,r⟩;exact ⟨p,a,cap,hρ k p hp,r⟩
 | mri k i=>rintro v ⟨p,vs,hp,r⟩;exact ⟨p,vs,hρ k p hp,r⟩
theorem zTS {M M':Nat→Prop} {w:World} {σ:List Nat} {b:Nat} {ρ ρ':List zAJ} (hM: ∀ b,M' b→M b) (hρ: ∀ (k:Nat) (p:zAJ),ρ[upk σ b k]? =some p→ρ'[k]? =some p): ∀ (d:DV) {v:Value},zAU M w (up σ b d) ρ v→zAU M' w d ρ' v:=by
 have low: ∀ (d:DV) {v:Value},zAU M w d [] v→zAU M' w d [] v:=fun d v h=>h.out d (zA7 hM [])
 have unt: ∀ {m j:Nat} {f:Nat→DV} {u:Value},j<m→zAU M w (tab m f j) ρ u→zAU M w (f j) ρ u:=fun hj h=>by rw [zSO hj] at h;exact h
 intro d
 induction d with
 | any=>intro v _;trivial
 | nils=>intro v h;exact h
 | int k n=>intro v h;exact h
 | bool b=>intro v h;exact h
 | str s=>intro v h;exact h
 | ints l=>intro v h;exact low (.ints l) h
 | bools l=>intro v h;exact low (.bools l) h
 | sl m n f _=>intro v h;exact low (.sl m n f) h
 | fp m f _=>intro v h;exact low (.fp m f) h
 | agg m f ih=>
  rintro v ⟨cs,e,hs,h⟩
  exact ⟨cs,e,hs,fun j hj=>let ⟨u,h1,h2⟩:=h j hj;⟨u,h1,ih j (unt hj h2)⟩⟩
 | tup m f ih=>
  rintro v ⟨cs,e,hs,h⟩
  exact ⟨cs,e,hs,fun j hj=>let ⟨u,h1,h2⟩:=h j hj;⟨u,h1,ih j (unt hj h2)⟩⟩
 | fn g m c ih=>
  rintro v ⟨cs,e,hs,h⟩
  exact ⟨cs,e,hs,fun j hj=>let ⟨u,h1,h2⟩:=h j hj;⟨u,h1,ih j (unt hj h2)⟩⟩
 | ref k j=>rintro v ⟨p,hp,r⟩;exact ⟨p,hρ k p hp,r⟩
 | msl k m o n=>rintro v ⟨p,cap,hp,r⟩;exact ⟨p,cap,hρ k p hp,r⟩
 | mp k m i j=>rintro v ⟨p,hp,r⟩;exact ⟨p,hρ k p hp,r⟩
 | it k=>rintro v ⟨p,hp,r⟩;exact ⟨p,hρ k p hp,r⟩
 | cst u=>intro v h;exact h
 | yl l=>intro v h;exact h
 | mse k m o n=>rintro v ⟨p,a,cap,hp,r⟩;exact ⟨p,a,cap,hρ k p hp,r⟩
 | mri k i=>rintro v ⟨p,vs,hp,r⟩;exact ⟨p,vs,hρ k p hp,r⟩
theorem zbN {M M':Nat→Prop} {w:World} {σ:List Nat} {b:Nat} {ρ ρ':List zAJ} {p:zAJ} (hM: ∀ b,M' b→M b) (hρ: ∀ (k:Nat) (p:zAJ),ρ[k]? =some p→ρ'[upk σ b k]? =some p) {o o':DO} (ho:upO σ b (some o)=some o') (h:zBf P M w ρ p o):zBf P M' w ρ' p o':=by
 cases o with
 | cells l=>
  cases ho
  show zAP w p (l.map (up σ b)).length _
  rw [List.length_map]
  refine zAP.out h rfl fun j u hj hu=>?_
  have:(l.map (up σ b)).getD j .any=up σ b (l.getD j .any):=by simp [hj]
  rw [this];exact za6 hM hρ _ hu
 | ints l=>cases ho;exact zAP.out h rfl fun j u _ hu=>hu
 | bools l=>cases ho;exact zAP.out h rfl fun j u _ hu=>hu
 | arr m n f=>cases ho;exact zAP.out h rfl fun j u _ hu=>zAU.out _ (zA7 hM []) hu
 | iter encs=>
  cases ho
  obtain ⟨gf,lb,Rd,q1,q2,q3,q4⟩:=h
  exact ⟨gf,lb,Rd,q1,q2,fun b hb=>⟨fun hm=>(q3 b hb).1 (hM b hm),(q3 b hb).2⟩,q4⟩
 | mo x=>cases ho;exact h
theorem zYc {M M':Nat→Prop} {w:World} {σ:List Nat} {b:Nat} {ρ ρ':List zAJ} {p:zAJ} (hM: ∀ b,M' b→M b) (hρ: ∀ (k:Nat) (p:zAJ),ρ[upk σ b k]? =some p→ρ'[k]? =some p) {o o':DO} (ho:upO σ b (some o)=some o') (h:zBf P M w ρ p o'):zBf P M' w ρ' p o:=by
 cases o with
 | cells l=>
  cases ho
  have h:zAP w p (l.map (up σ b)).length _:=h
  rw [List.length_map] at h
  refine zAP.out h rfl fun j u hj hu=>?_
  have:(l.map (up σ b)).getD j .any=up σ b (l.getD j .any):=by simp [hj]
  rw [this] at hu;exact zTS hM hρ _ hu
 | ints l=>cases ho;exact zAP.out h rfl fun j u _ hu=>hu
 | bools l=>cases ho;exact zAP.out h rfl fun j u _ hu=>hu
 | arr m n f=>cases ho;exact zAP.out h rfl fun j u _ hu=>zAU.out _ (zA7 hM []) hu
 | iter encs=>
  cases ho
  obtain ⟨gf,lb,Rd,q1,q2,q3,q4⟩:=h
  exact ⟨gf,lb,Rd,q1,q2,fun b hb=>⟨fun hm=>(q3 b hb).1 (hM b hm),(q3 b hb).2⟩,q4⟩
 | mo x=>cases ho;exact h
theorem ES.embed {f:Nat} {ds:List DV} {h:DH} {d:DV} {h':DH} {ext:Bool} (hES:ES P Γ f ds h d h' ext) (σ:List Nat) (H:DH) (hn:σ.Nodup) (hlt: ∀ k∈σ,k<H.length) (hl:σ.length=h.length) (hl':h.length≤h'.length)
 (hh:(σ.map fun k=>H.getD k none)=h.map (upO σ H.length)):ES P Γ f (ds.map (up σ H.length)) H (up σ H.length d) (zQz H σ h') ext:=by
 refine ⟨hES.1,fun N ρ w args HR hargs=>?_⟩
 obtain ⟨ρ0,hρ0⟩: ∃ ρ0,ρ0=σ.map fun k=>ρ.getD k zXY:=⟨_,rfl⟩
 have len0:ρ0.length=σ.length:=by rw [hρ0];simp
 have at0: ∀ {i k:Nat},σ[i]? =some k→ρ0[i]? =ρ[k]? :=fun {i k} hk=>by
  have hk':k<ρ.length:=by rw [HR.len];exact hlt k (List.mem_of_getElem? hk)
  rw [hρ0,List.getElem?_map,hk]
  simp [hk']
 have sig: ∀ {i:Nat},i<σ.length→∃ k,σ[i]? =some k∧upk σ H.length i=k:=fun {i} hi=>by
  refine ⟨σ[i],by simp [hi],?_⟩
  unfold upk;rw [if_pos hi];simp [hi]
 have obj0: ∀ {i:Nat} {o:DO},h[i]? =some (some o)→∃ k o',σ[i]? =some k∧H[k]? =some (some o')∧upO σ H.length (some o)=some o':=fun {i o} hi=>by
  have hil:i<σ.length:=by rw [hl];exact (List.getElem?_eq_some_iff.1 hi).1
  obtain ⟨k,hk,_⟩:=sig hil
  have e:=congrArg (·[i]?) hh
  simp only [List.getElem?_map,hk,hi,Option.map_some] at e
  have hkl:=hlt k (List.mem_of_getElem? hk)
  have e:H.getD k none=upO σ H.length (some o):=Option.some.inj e
  have e2: ∃ o',upO σ H.length (some o)=some o':=by cases o <;> exact ⟨_,rfl⟩
  obtain ⟨o',ho'⟩:=e2
  refine ⟨k,o',hk,?_,ho'⟩
  rw [ho'] at e
  rw [List.getElem?_eq_getElem hkl]
  rw [List.getD_eq_getElem?_getD,List.getElem?_eq_getElem hkl] at e
  exact congrArg some e
 have objH: ∀ {i k:Nat} {o':DO},σ[i]? =some k→H[k]? =some (some o')→∃ o,h[i]? =some (some o)∧upO σ H.length (some o)=some o':=fun {i k o'} hk ho=>by
  have hil:i<h.length:=by rw [←hl];exact (List.getElem?_eq_some_iff.1 hk).1
  have e:=congrArg (·[i]?) hh
  simp only [List.getElem?_map,hk,List.getElem?_eq_getElem hil,Option.map_some] at e
  have e:H.getD k none=upO σ H.length h[i]:=Option.some.inj e
  rw [zTM ho] at e
  obtain ⟨o0,e0⟩:=zNJ e.symm
  exact ⟨o0,by rw [List.getElem?_eq_getElem hil,e0],by rw [e0] at e;exact e.symm⟩
 obtain ⟨N0,hN0⟩: ∃ N0:Nat→Prop,N0=fun b=>N b∨∃ k o p,zKp σ k=none∧H[k]? =some (some o)∧ρ[k]? =some p∧p.foot b:=⟨_,rfl⟩
 have mo0: ∀ b,MO h ρ0 b→MO H ρ b:=by
  rintro b ⟨i,o,p,g1,g2,g3⟩
  obtain ⟨k,o',e1,e2,_⟩:=obj0 g1
  exact ⟨k,o',p,e2,(at0 e1).symm.trans g2,g3⟩
 have ms0: ∀ b,MS N0 h ρ0 b→MS N H ρ b:=by
  rintro b (hb | hb)
  ·rw [hN0] at hb
   rcases hb with hb | ⟨k,o,p,_,g1,g2,g3⟩
   ·exact .inl hb
   ·exact .inr ⟨k,o,p,g1,g2,g3⟩
  ·exact .inr (mo0 b hb)
 have ms1: ∀ b,MS N H ρ b→MS N0 h ρ0 b:=by
  rintro b (hb | ⟨k,o,p,g1,g2,g3⟩)
  ·exact .inl (by rw [hN0];exact .inl hb)
  ·cases hk:zKp σ k with
   | none=>exact .inl (by rw [hN0];exact .inr ⟨k,o,p,hk,g1,g2,g3⟩)
   | some i=>
    have hi:=zCQ hk
    obtain ⟨o0,e1,_⟩:=objH hi g1
    exact .inr ⟨i,o0,p,e1,(at0 hi).trans g2,g3⟩
 have dn: ∀ (k:Nat) (p:zAJ),ρ[upk σ H.length k]? =some p→ρ0[k]? =some p:=fun k p hp=>by
  by_cases hk:k<σ.length
  ·obtain ⟨k',e1,e2⟩:=sig hk
   rw [e2] at hp
   exact (at0 e1).trans hp
  ·unfold upk at hp
   rw [if_neg hk] at hp
   have:=(List.getElem?_eq_some_iff.1 hp).1
   rw [HR.len] at this;omega
 have foreign: ∀ {b:Nat},N0 b→¬ MO h ρ0 b:=by
  rintro b hb ⟨i,o,p,g1,g2,g3⟩
  obtain ⟨k,o',e1,e2,_⟩:=obj0 g1
  have hp:=(at0 e1).symm.trans g2
  rw [hN0] at hb
  rcases hb with hb | ⟨k',o2,p2,q1,q2,q3,q4⟩
  ·exact (HR.cel k o' p b e2 hp g3).2.1 hb
  ·refine HR.dis k k' o' o2 p p2 b ?_ e2 q2 hp q3 g3 q4
   rintro rfl
   rw [zNg hn e1] at q1;cases q1
 have H0:zDJ P Γ N0 h ρ0 w:=by
  refine ⟨by rw [len0,hl],fun i o hi=>?_,fun i o p b g1 g2 g3=>?_,fun i i' o1 o2 p1 p2 b hne g1 g2 g3 g4 g5 g6=>?_,fun b hb=>HR.lt2 (ms0 b (.inl hb)),HR.gi⟩
  ·obtain ⟨k,o',e1,e2,e3⟩:=obj0 hi
   obtain ⟨p,hp,hr⟩:=HR.obj k o' e2
   exact ⟨p,(at0 e1).trans hp,zYc ms0 dn e3 hr⟩
  ·obtain ⟨k,o',e1,e2,e3⟩:=obj0 g1
   obtain ⟨q1,q2,q3⟩:=HR.cel k o' p b e2 ((at0 e1).symm.trans g2) g3
   exact ⟨q1,fun hb=>foreign hb ⟨i,o,p,g1,g2,g3⟩,q3⟩
  ·obtain ⟨k,o',e1,e2,e3⟩:=obj0 g1
   obtain ⟨k',o2',e1',e2',e3'⟩:=obj0 g2
   refine HR.dis k k' o' o2' p1 p2 b ?_ e2 e2' ((at0 e1).symm.trans g3) ((at0 e1').symm.trans g4) g5 g6
   rintro rfl
   have a1:=zNg hn e1
   have a2:=zNg hn e1'
   exact hne (Option.some.inj (a1.symm.trans a2))
 refine (hES.2 N0 ρ0 w args H0 ⟨by rw [←hargs.1];simp,fun i hi=>?_⟩).mono ?_
 ·have:=hargs.2 i (by simpa using hi)
  have e:(ds.map (up σ H.length)).getD i .any=up σ H.length (ds.getD i .any):=by simp [hi]
  rw [e] at this
  exact zTS ms0 dn _ this
 ·rintro e w' ⟨v,rfl,⟨⟨ρ1,g1,g2,g3,g4⟩,g5⟩⟩
  have l1:ρ1.length=h'.length:=g1.len
  obtain ⟨ρ',hρ'⟩: ∃ ρ',ρ'=ρ++ρ1.drop σ.length:=⟨_,rfl⟩
  have at1: ∀ {i k:Nat},σ[i]? =some k→ρ1[i]? =ρ[k]? :=fun {i k} hk=>by
   have hil:i<ρ0.length:=by rw [len0];exact (List.getElem?_eq_some_iff.1 hk).1
   have:=g4 i ρ0[i] (by simp [hil])
   rw [this,←at0 hk];simp [hil]
  have old: ∀ {k:Nat},k<H.length→ρ'[k]? =ρ[k]? :=fun {k} hk=>by rw [hρ',List.getElem?_append_left (by rw [HR.len];exact hk)]
  have upρ: ∀ (k:Nat) (p:zAJ),ρ1[k]? =some p→ρ'[upk σ H.length k]? =some p:=fun k p hp=>by
   by_cases hk:k<σ.length
   ·obtain ⟨k',e1,e2⟩:=sig hk
    rw [e2,old (hlt k' (List.mem_of_getElem? e1)),←at1 e1];exact hp
   ·unfold upk
    rw [if_neg hk,hρ',List.getElem?_append_right (by rw [HR.len];omega),List.getElem?_drop,HR.len]
    rw [show σ.length+(H.length+(k-σ.length)-H.length)=k by omega]
    exact hp
  have lenE:(zQz H σ h').length=H.length+(h'.length-σ.length):=by simp [zQz]
  have src: ∀ {k:Nat} {o':DO},(zQz H σ h')[k]? =some (some o')→(k<H.length∧zKp σ k=none∧H[k]? =some (some o')∧ρ'[k]? =ρ[k]?)∨∃ i o,h'[i]? =some (some o)∧upO σ H.length (some o)=some o'∧ρ'[k]? =ρ1[i]? ∧k=upk σ H.length i:=by
   intro k o' hk
   by_cases hkl:k<H.length
   ·unfold zQz at hk
    rw [List.getElem?_append_left (by simpa using hkl),List.getElem?_map,List.getElem?_range hkl] at hk
    simp only [Option.map_some,Option.some.injEq] at hk
    split at hk
    ·rename_i i hi
     have his:=zCQ hi
     obtain ⟨o0,e0⟩:=zNJ hk
     have hil:i<h'.length:=Nat.lt_of_lt_of_le (by rw [←hl];exact (List.getElem?_eq_some_iff.1 his).1) hl'
     rw [e0] at hk
     refine .inr ⟨i,o0,?_,hk,?_,?_⟩
     ·rw [List.getElem?_eq_getElem hil]
      rw [List.getD_eq_getElem?_getD,List.getElem?_eq_getElem hil] at e0
      exact congrArg some e0
     ·rw [old hkl,at1 his]
     ·obtain ⟨k2,e1,e2⟩:=sig (List.getElem?_eq_some_iff.1 his).1
      rw [e2];exact Option.some.inj (his.symm.trans e1)
    ·rename_i hi
     refine .inl ⟨hkl,hi,?_,old hkl⟩
     rw [List.getElem?_eq_getElem hkl]
     rw [List.getD_eq_getElem?_getD,List.getElem?_eq_getElem hkl] at hk
     exact congrArg some hk
   ·unfold zQz at hk
    rw [List.getElem?_append_right (by simp;omega),List.getElem?_map,List.getElem?_drop] at hk
    simp only [List.length_map,List.length_range] at hk
    cases hx:h'[σ.length+(k-H.length)]? with
    | none=>rw [hx] at hk;cases hk
    | some x=>
     rw [hx] at hk
     have hk:upO σ H.length x=some o':=Option.some.inj hk
     obtain ⟨o0,e0⟩:=zNJ hk
     subst e0
     refine .inr ⟨σ.length+(k-H.length),o0,hx,hk,?_,?_⟩
     ·rw [hρ',List.getElem?_append_right (by rw [HR.len];omega),List.getElem?_drop,HR.len]
     ·unfold upk;rw [if_neg (by omega)];omega
  have back: ∀ {k:Nat} {o:DO},zKp σ k=none→H[k]? =some (some o)→(zQz H σ h')[k]? =some (some o):=by
   intro k o hk ho
   have hkl:=(List.getElem?_eq_some_iff.1 ho).1
   unfold zQz
   rw [List.getElem?_append_left (by simpa using hkl),List.getElem?_map,List.getElem?_range hkl]
   simp only [Option.map_some,hk,zTM ho]
  have msE: ∀ b,MS N (zQz H σ h') ρ' b→MS N0 h' ρ1 b:=by
   rintro b (hb | ⟨k,o',p,q1,q2,q3⟩)
   ·exact .inl (by rw [hN0];exact .inl hb)
   ·rcases src q1 with ⟨a1,a2,a3,a4⟩ | ⟨i,o,a1,a2,a3,a4⟩
    ·exact .inl (by rw [hN0];exact .inr ⟨k,o',p,a2,a3,a4.symm.trans q2,q3⟩)
    ·exact .inr ⟨i,o,p,a1,a3.symm.trans q2,q3⟩
  have grow: ∀ b,MO (zQz H σ h') ρ' b→MO H ρ b∨w.heap.size≤b:=by
   rintro b ⟨k,o',p,q1,q2,q3⟩
   rcases src q1 with ⟨a1,a2,a3,a4⟩ | ⟨i,o,a1,a2,a3,a4⟩
   ·exact .inl ⟨k,o',p,a3,a4.symm.trans q2,q3⟩
   ·exact (g3.grow b ⟨i,o,p,a1,a3.symm.trans q2,q3⟩).imp (mo0 b) id
  have pl: ∀ (k:Nat) (p:zAJ),ρ[k]? =some p→ρ'[k]? =some p:=fun k p hp=>by
   rw [hρ',List.getElem?_append_left (List.getElem?_eq_some_iff.1 hp).1];exact hp
  have O:zDW (MS N H ρ) w ρ (MS N (zQz H σ h') ρ') w' ρ':=
   ⟨fun b hb hm _=>g3.upd.block b hb fun hx=>hm (.inr (mo0 b hx)),fun b hb=>hb.elim (fun hb=>.inl (.inl hb)) (fun hb=>(grow b hb).imp .inr id),pl⟩
  refine ⟨v,rfl,⟨⟨ρ',⟨?_,fun k o' hk=>?_,fun k o' p b q1 q2 q3=>?_,fun k k' o1 o2 p1 p2 b hne q1 q2 q3 q4 q5 q6=>?_,fun b hb=>⟨Nat.lt_of_lt_of_le (HR.nlt b hb).1 g3.upd.size,(HR.nlt b hb).2⟩,g1.gi⟩,za6 msE upρ _ g2,⟨g3.upd.mono fun b _ hb=>mo0 b hb,grow⟩,pl⟩,g5⟩⟩
  ·rw [lenE,hρ'];simp [HR.len,l1]
  ·rcases src hk with ⟨a1,a2,a3,a4⟩ | ⟨i,o,a1,a2,a3,a4⟩
   ·obtain ⟨p,hp,hr⟩:=HR.obj k o' a3
    refine ⟨p,a4.trans hp,hr.out O g3.upd (fun b hb=>.inr (mo0 b hb)) fun b _ hf hs=>?_⟩
    exact foreign (by rw [hN0];exact .inr ⟨k,o',p,a2,a3,hp,hf⟩) hs
   ·obtain ⟨p,hp,hr⟩:=g1.obj i o a1
    exact ⟨p,a3.trans hp,zbN msE upρ a2 hr⟩
  ·rcases src q1 with ⟨a1,a2,a3,a4⟩ | ⟨i,o,a1,a2,a3,a4⟩
   ·have hp:=a4.symm.trans q2
    obtain ⟨c1,c2,c,t,z,c3⟩:=HR.cel k o' p b a3 hp q3
    refine ⟨c1,c2,c,t,z,(g3.upd.block b (Array.getElem?_eq_some_iff.1 c3).1 fun hx=>?_).trans c3⟩
    exact foreign (by rw [hN0];exact .inr ⟨k,o',p,a2,a3,hp,q3⟩) hx
   ·obtain ⟨c1,c2,c3⟩:=g1.cel i o p b a1 (a3.symm.trans q2) q3
    exact ⟨c1,fun hb=>c2 (by rw [hN0];exact .inl hb),c3⟩
  ·rcases src q1 with ⟨a1,a2,a3,a4⟩ | ⟨i,o,a1,a2,a3,a4⟩
   ·rcases src q2 with ⟨c1,c2,c3,c4⟩ | ⟨i',o',c1,c2,c3,c4⟩
    ·exact HR.dis k k' o1 o2 p1 p2 b hne a3 c3 (a4.symm.trans q3) (c4.symm.trans q4) q5 q6
    ·exact (g1.cel i' o' p2 b c1 (c3.symm.trans q4) q6).2.1 (by rw [hN0];exact .inr ⟨k,o1,p1,a2,a3,a4.symm.trans q3,q5⟩)
   ·rcases src q2 with ⟨c1,c2,c3,c4⟩ | ⟨i',o',c1,c2,c3,c4⟩
    ·exact (g1.cel i o p1 b a1 (a3.symm.trans q3) q5).2.1 (by rw [hN0];exact .inr ⟨k',o2,p2,c2,c3,c4.symm.trans q4,q6⟩)
    ·refine g1.dis i i' o o' p1 p2 b ?_ a1 c1 (a3.symm.trans q3) (c3.symm.trans q4) q5 q6
     rintro rfl
     exact hne (a4.trans c4.symm)
def zdD (σ:List Nat) (n l l':Nat):Bool:=decide σ.Nodup&&σ.all (fun k=>decide (k<n))&&decide (σ.length=l)&&decide (l≤l')
theorem ES.embedB {f:Nat} {ds:List DV} {h:DH} {d:DV} {h':DH} {ext:Bool} (hES:ES P Γ f ds h d h' ext) (σ:List Nat) (H:DH) (hb:zdD σ H.length h.length h'.length=true) (hh:(σ.map fun k=>H.getD k none)=h.map (upO σ H.length))
 {ds1:List DV} {d1:DV} {H1:DH} (e:(ds.map (up σ H.length),up σ H.length d,zQz H σ h')=(ds1,d1,H1)):ES P Γ f ds1 H d1 H1 ext:=by
 simp only [zdD,Bool.and_eq_true,decide_eq_true_eq,List.all_eq_true] at hb
 cases e
 exact hES.embed σ H hb.1.1.1 (fun k hk=>hb.1.1.2 k hk) hb.1.2 hb.2 hh
end
end Go.Proofs.YtekkngkphejfcaaGreatDoor
namespace Go.Proofs.YtekkngkphejfcaaGreatDoor
open Go.RowKit
section
variable {P:Program} {Γ:Glo}
theorem zDJ.foreign {N1 N2 G:Nat→Prop} {h:DH} {ρ:List zAJ} {A B:World} (H:zDJ P Γ N1 h ρ A) (hu:Upd G A B) (hG: ∀ b,G b→N1 b∧Γ.ng≤b) (hN: ∀ b,N2 b→N1 b∨A.heap.size≤b) (hb: ∀ b,N2 b→b<B.heap.size∧Γ.ng≤b):zDJ P Γ N2 h ρ B:=by
 have O:zDW (MS N1 h ρ) A ρ (MS N2 h ρ) B ρ:=⟨fun b hlt hm _=>hu.block b hlt fun hx=>hm (.inl (hG b hx).1),fun b hb=>hb.elim (fun h=>(hN b h).imp .inl id) (fun h=>.inl (.inr h)),fun _ _ h=>h⟩
 refine ⟨H.len,fun k o hk=>?_,fun k o p b h1 h2 h3=>?_,H.dis,hb,Γ.st _ _ H.gi (hu.mono fun i _ hx=>(hG i hx).2)⟩
 ·obtain ⟨p,hp,hr⟩:=H.obj k o hk
  exact ⟨p,hp,hr.out O hu (fun b hb=>.inl (hG b hb).1) fun b _ hf hs=>(H.cel k o p b hk hp hf).2.1 (hG b hs).1⟩
 ·obtain ⟨c1,c2,c,t,z,c3⟩:=H.cel k o p b h1 h2 h3
  have hlt:=(Array.getElem?_eq_some_iff.1 c3).1
  exact ⟨c1,fun hn=>(hN b hn).elim c2 (by omega),c,t,z,(hu.block b hlt fun hx=>c2 (hG b hx).1).trans c3⟩
theorem zDW.foreign {N1 N2 G:Nat→Prop} {h:DH} {ρ:List zAJ} {A B:World} (hu:Upd G A B) (hG: ∀ b,G b→N1 b∧Γ.ng≤b) (hN: ∀ b,N2 b→N1 b∨A.heap.size≤b):zDW (MS N1 h ρ) A ρ (MS N2 h ρ) B ρ:=
 ⟨fun b hlt hm _=>hu.block b hlt fun hx=>hm (.inl (hG b hx).1),fun b hb=>hb.elim (fun h=>(hN b h).imp .inl id) (fun h=>.inl (.inr h)),fun _ _ h=>h⟩
def zNO (fr:List DV) (ps:List Tmp) (x:List Value):List DV:=(ps.zip x).foldl (fun t q=>t.set q.1 (ofV q.2)) fr
theorem zOw {M:Nat→Prop} {w:World} {ρ:List zAJ}: ∀ (l:List (Tmp×Value)) {fr:List DV} {t:Array Value},zBs M w ρ fr t→zBs M w ρ (l.foldl (fun t q=>t.set q.1 (ofV q.2)) fr) (l.foldl (fun t (q:Tmp×Value)=>t.setIfInBounds q.1 q.2) t)
 | [],_,_,h=>h
 | q::l,_,_,h=>zOw l (h.set q.1 (zLJ _))
def zSf (K:Nat):DV→Bool
 | .ref k _=>decide (k<K)
 | .msl k _ _ _=>decide (k<K)
 | .mse k _ _ _=>decide (k<K)
 | .mri k _=>decide (k<K)
 | .mp k _ _ _=>decide (k<K)
 | .it k=>decide (k<K)
 | .agg m f=>(List.range m).all fun j=>zSf K (f j)
 | .tup m f=>(List.range m).all fun j=>zSf K (f j)
 | .fn _ m f=>(List.range m).all fun j=>zSf K (f j)
 | _=>true
theorem zGd {α:Type} {l:List α} {K k:Nat} {x:α} (hk:k<K) (h:l[k]? =some x):(l.take K)[k]? =some x:=by rw [List.getElem?_take,if_pos hk];exact h
theorem zAU.take {M:Nat→Prop} {w:World} {K:Nat}: ∀ (d:DV) {ρ:List zAJ} {v:Value},zSf K d=true→zAU M w d ρ v→zAU M w d (ρ.take K) v:=by
 intro d
 induction d with
 | ref k j=>rintro ρ v hb ⟨p,h,e⟩;exact ⟨p,zGd (of_decide_eq_true hb) h,e⟩
 | msl k m off n=>rintro ρ v hb ⟨p,cap,h,e⟩;exact ⟨p,cap,zGd (of_decide_eq_true hb) h,e⟩
 | mp k m i j=>rintro ρ v hb ⟨p,h,e⟩;exact ⟨p,zGd (of_decide_eq_true hb) h,e⟩
 | it k=>rintro ρ v hb ⟨p,h,e⟩;exact ⟨p,zGd (of_decide_eq_true hb) h,e⟩
 | agg m f ih=>
  rintro ρ v hb ⟨cs,e,hs,h⟩
  exact ⟨cs,e,hs,fun j hj=>let ⟨u,h1,h2⟩:=h j hj;⟨u,h1,ih j (List.all_eq_true.1 hb j (List.mem_range.2 hj)) h2⟩⟩
 | tup m f ih=>
  rintro ρ v hb ⟨cs,e,hs,h⟩
  exact ⟨cs,e,hs,fun j hj=>let ⟨u,h1,h2⟩:=h j hj;⟨u,h1,ih j (List.all_eq_true.1 hb j (List.mem_range.2 hj)) h2⟩⟩
 | fn g m f ih=>
  rintro ρ v hb ⟨cs,e,hs,h⟩
  exact ⟨cs,e,hs,fun j hj=>let ⟨u,h1,h2⟩:=h j hj;⟨u,h1,ih j (List.all_eq_true.1 hb j (List.mem_range.2 hj)) h2⟩⟩
 | yl l=>rintro ρ v _ h;exact h
 | cst u=>rintro ρ v _ h;exact h
 | mse k m off n=>rintro ρ v hb ⟨p,a,cap,h,e⟩;exact ⟨p,a,cap,zGd (of_decide_eq_true hb) h,e⟩
 | mri k i=>rintro ρ v hb ⟨p,vs,h,e⟩;exact ⟨p,vs,zGd (of_decide_eq_true hb) h,e⟩
 | any=>rintro ρ v _ h;trivial
 | nils=>rintro ρ v _ h;exact h
 | int k n=>rintro ρ v _ h;exact h
 | bool b=>rintro ρ v _ h;exact h
 | str s=>rintro ρ v _ h;exact h
 | ints l=>rintro ρ v _ h;exact h
 | bools l=>rintro ρ v _ h;exact h
 | sl m n f=>rintro ρ v _ h;exact h
 | fp m f=>rintro ρ v _ h;exact h
theorem zBs.take {M:Nat→Prop} {w:World} {K:Nat} {ρ:List zAJ} {fr:List DV} {t:Array Value} (h:zBs M w ρ fr t) (hb:fr.all (zSf K)=true):zBs M w (ρ.take K) fr t:=by
 refine ⟨h.1,fun i hi=>zAU.take _ ?_ (h.2 i hi)⟩
 have:fr.getD i .any∈fr:=by simp [List.getD_eq_getElem?_getD,hi]
 exact List.all_eq_true.1 hb _ this
structure RI (K:Nat) (P:Program) (Γ:Glo) (N:Nat→Prop) (h0:DH) (ρ0:List zAJ) (w0:World) (G:Nat→Prop) (W:World) (h:DH) (ρ:List zAJ):Prop where
 hr:zDJ P Γ (fun b=>N b∨G b) h ρ W
 upd:Upd (MO h0 ρ0) w0 W
 grow: ∀ b,MO h ρ b→MO h0 ρ0 b∨w0.heap.size≤b
 g: ∀ b,G b→Γ.ng≤b∧(MO h0 ρ0 b∨w0.heap.size≤b)
 kept:zMK K ρ0 ρ
theorem RI.stable {K:Nat} {N:Nat→Prop} {h0:DH} {ρ0:List zAJ} {w0:World} (hng:Γ.ng≤w0.heap.size) {G G':Nat→Prop} {A B:World} {h:DH} {ρ:List zAJ} (R:RI K P Γ N h0 ρ0 w0 G A h ρ) (hu:Upd G A B) (hg: ∀ k,G' k→G k∨A.heap.size≤k) (hb: ∀ k,G' k→k<B.heap.size):RI K P Γ N h0 ρ0 w0 G' B h ρ:=by
 have hs:w0.heap.size≤A.heap.size:=R.upd.size
 refine ⟨R.hr.foreign hu (fun b hx=>⟨.inr hx,(R.g b hx).1⟩) (fun b hx=>?_) (fun b hx=>?_),R.upd.comp hu fun i hi hx=>(R.g i hx).2.resolve_right (by omega),R.grow,fun b hx=>?_,R.kept⟩
 ·rcases hx with hx | hx
  ·exact .inl (.inl hx)
  ·exact (hg b hx).imp .inr id
 ·rcases hx with hx | hx
  ·exact ⟨Nat.lt_of_lt_of_le (R.hr.nlt b (.inl hx)).1 hu.size,(R.hr.nlt b (.inl hx)).2⟩
  ·exact ⟨hb b hx,(hg b hx).elim (fun h=>(R.g b h).1) (fun h=>by omega)⟩
 ·rcases hg b hx with hx | hx
  ·exact R.g b hx
  ·exact ⟨by omega,.inr (by omega)⟩
theorem RI.outl {K:Nat} {N:Nat→Prop} {h0:DH} {ρ0:List zAJ} {w0:World} {G:Nat→Prop} {W:World} {h:DH} {ρ:List zAJ} (R:RI K P Γ N h0 ρ0 w0 G W h ρ):zDW (MS N h0 ρ0) w0 (ρ0.take K) (MS (fun b=>N b∨G b) h ρ) W ρ:=
 ⟨fun b hlt hm _=>R.upd.block b hlt fun hx=>hm (.inr hx),fun b hb=>by
  rcases hb with (hb | hb) | hb
  ·exact .inl (.inl hb)
  ·exact (R.g b hb).2.imp .inr id
  ·exact (R.grow b hb).imp .inr id,fun k p hk=>by
  rw [List.getElem?_take] at hk
  by_cases e:k<K
  ·rw [if_pos e] at hk;exact R.kept k p e hk
  ·rw [if_neg e] at hk;cases hk⟩
def exC:Exit→Option Code
 | .ret=>some .ret
 | .exit id=>some (.exit id)
 | _=>none
def zeF (L:Nat) (J:DH→Prop) (Jx:Exit→DH→Prop) (e:Exit) (S:St):Prop:=∃ S3,SLe L S S3∧((e= .normal∧J S3.h)∨((exC e).isSome=true∧Jx e S3.h))
def zdM (P:Program) (Γ:Glo) (fr:List DV) (ps:List Tmp) (assign body:Code) (L:Nat) (J:Nat→DH→Prop) (Jx:Exit→DH→Prop) (encs:List (Array Value)):Prop:=
 ∀ (l B:Nat) (Y:zDD P Γ L) (i:Nat) (x:Array Value) (h:DH),encs[i]? =some x→J i h→
  Tr P Γ (Fence.wide.inRound l) (some B) L Y assign ⟨zNO fr ps x.toList,h⟩ (zVs (fun S' Y'=>Y'=Y∧∀ Y2:zDD P Γ L,Tr P Γ (Fence.wide.inRound l) (some B) L Y2 body S' (zdP Y2 (zeF L (J (i+1)) Jx))) (fun _ _ _=>False))
theorem zKt {N:Nat→Prop} {S:St} {ρ:List zAJ} {a:Act} {w:World} (R:Rel P Γ N S ρ a w) {ps:Array Tmp} {assign body:Code} {encs:List (Array Value)} {J:Nat→DH→Prop} {Jx:Exit→DH→Prop} {Rd:Nat→Prop} {l KK:Nat} (hfr:S.fr.all (zSf KK)=true)
 (hRd: ∀ b,Rd b→¬ MS N S.h ρ b∧b<w.heap.size) (hround:zdM P Γ S.fr ps.toList assign body KK J Jx encs)
 (G:Nat→Prop) (i:Nat) (x:Array Value) (W:World) (hx:encs[i]? =some x) (hI: ∃ h ρ',J i h∧RI KK P Γ N S.h ρ w G W h ρ') (hl: ∃ r,W.heap[l]? =some (.loop r)) (hgl:G l):
 assign.wpIn (Fence.wide.inRound l) 0 P (Exit.then (fun a₁ W₁=>∃ K:(Nat→Prop)→World→Prop,zCg K∧Upd (fun k=>¬ (G k∨Rd k)) W W₁∧K G W₁∧∀ W₂,K G W₂→(∃ r,W₂.heap[l]? =some (.loop r))→
  body.wpIn (Fence.wide.inRound l) 0 P (zSZ (fun k=>G k∨Rd k) (fun W'=>∃ h ρ',J (i+1) h∧RI KK P Γ N S.h ρ w G W' h ρ') (fun c W'=>∃ e,exC e=some c∧∃ h ρ',Jx e h∧RI KK P Γ N S.h ρ w G W' h ρ') W₂) a₁ W₂) (fun _ _ _=>False)) { tmps:=(ps.zip x).foldl (fun t (p,v)=>t.setIfInBounds p v) a.tmps,defers:=[] } W:=by
 obtain ⟨h,ρ1,hJ,hR⟩:=hI
 have hng:Γ.ng≤w.heap.size:=Γ.lo _ R.hr.gi
 have fr1:zBs (MS (fun b=>N b∨G b) h ρ1) W ρ1 (zNO S.fr ps.toList x.toList) ((ps.zip x).foldl (fun t (p,v)=>t.setIfInBounds p v) a.tmps):=by
  have:=zOw (ps.zip x).toList ((R.fr.take hfr).out hR.outl)
  rw [Array.toList_zip] at this
  rw [←Array.foldl_toList,Array.toList_zip]
  exact this
 have off: ∀ {G:Nat→Prop} {W:World} {h:DH} {ρ1:List zAJ},RI KK P Γ N S.h ρ w G W h ρ1→∀ b,MO h ρ1 b→¬ (G b∨Rd b):=by
  rintro G W h ρ1 hR b hm (hg | hd)
  ·obtain ⟨k,o,p,q1,q2,q3⟩:=hm
   exact (hR.hr.cel k o p b q1 q2 q3).2.1 (.inr hg)
  ·rcases hR.grow b hm with hm | hm
   ·exact (hRd b hd).1 (.inr hm)
   ·have:=(hRd b hd).2;omega
 have step: ∀ {G:Nat→Prop} {W W':World} {h h':DH} {ρ1 ρ2:List zAJ},RI KK P Γ N S.h ρ w G W h ρ1→zDJ P Γ (fun b=>N b∨G b) h' ρ2 W'→zCH h ρ1 W h' ρ2 W'→zMK KK ρ1 ρ2→RI KK P Γ N S.h ρ w G W' h' ρ2:=by
  intro G W W' h h' ρ1 ρ2 hR hr' st hk
  have hs:=hR.upd.size
  exact ⟨hr',hR.upd.comp st.upd fun b hb hm=>(hR.grow b hm).resolve_right (by omega),fun b hb=>(st.grow b hb).elim (hR.grow b) fun h=>.inr (by omega),hR.g,hR.kept.trans hk⟩
 have bd:Bd (Fence.wide.inRound l) (some W.heap.size) W:=⟨fun b e=>by cases e;exact Nat.le_refl _,fun l' e=>by cases e;exact hl⟩
 refine wpIn_mono (hround l W.heap.size (zOt P Γ KK (fun b=>N b∨G b) h ρ1 W) i x h hx hJ _ ρ1 _ W ⟨hR.hr,fr1⟩ ⟨rfl,zCH.refl _ _ _,zMK.refl _ _⟩ trivial bd) ?_
 rintro e a1 W1 ⟨S',ρ2,N2,Y2,h1,h2,h3,h4,_⟩
 cases e with
 | normal=>
  obtain ⟨rfl,h1⟩:=h1
  obtain ⟨rfl,h3,h5⟩:=h3
  refine ⟨fun G' W'=>RI KK P Γ N S.h ρ w G' W' S'.h ρ2∧zBs (MS (fun b=>N b∨G' b) S'.h ρ2) W' ρ2 S'.fr a1.tmps∧zEC W.heap.size a1.defers W'∧W1.heap.size≤W'.heap.size∧(∀ b,G' b→b<W.heap.size∨W1.heap.size≤b)∧(∀ d∈a1.defers,∀ D,d.target= .collected D→D<W1.heap.size),?_,h3.upd.mono fun b _ hm=>off hR b hm,⟨step hR h2.hr h3 h5,h2.fr,h4,Nat.le_refl _,fun b hg=>.inl (hR.hr.nlt b (.inr hg)).1,fun d hd D ht=>zEC.lt h4 hd ht⟩,?_⟩
  ·rintro G1 G2 A C ⟨q1,q2,q3,q4,q5,q6⟩ hu hg hb
   have hR2:=q1.stable hng hu hg hb
   refine ⟨hR2,q2.out (zDW.foreign (Γ:=Γ) hu (fun b hx=>⟨.inr hx,(q1.g b hx).1⟩) fun b hx=>?_),?_,Nat.le_trans q4 hu.size,fun b hx=>(hg b hx).elim (q5 b) (fun h=>.inr (by omega)),q6⟩
   ·rcases hx with hx | hx
    ·exact .inl (.inl hx)
    ·exact (hg b hx).imp .inr id
   ·have go: ∀ {ds:List Deferred},zEC W.heap.size ds A→(∀ d∈ds,∀ D,d.target= .collected D→D<W1.heap.size)→zEC W.heap.size ds C:=by
     intro ds
     induction ds with
     | nil=>intros;trivial
     | cons d ds ih=>
      rintro ⟨D,r1,r2,r3,r4,r5⟩ hlt
      have hD:D<W1.heap.size:=hlt d (by simp) D (by rw [r1])
      refine ⟨D,r1,r2,(hu.block D (Array.getElem?_eq_some_iff.1 r3).1 fun hx=>?_).trans r3,r4,ih r5 fun d' hd'=>hlt d' (by simp [hd'])⟩
      rcases q5 D hx with h | h <;> omega
    exact go q3 q6
  ·rintro W2 ⟨q1,q2,q3,q4,q5,q6⟩ hl2
   have bd2:Bd (Fence.wide.inRound l) (some W.heap.size) W2:=⟨fun b e=>by cases e;exact Nat.le_trans h3.upd.size q4,fun l' e=>by cases e;exact hl2⟩
   refine wpIn_mono (h1 (zOt P Γ KK (fun b=>N b∨G b) S'.h ρ2 W2) _ ρ2 a1 W2 ⟨q1.hr,q2⟩ ⟨rfl,zCH.refl _ _ _,zMK.refl _ _⟩ q3 bd2) ?_
   rintro e a3 W3 ⟨S3,ρ3,N3,Y3,r1,r2,r3,r4,_⟩
   have out: ∀ e,(zOt P Γ KK (fun b=>N b∨G b) S'.h ρ2 W2).I N3 S3.h ρ3 W3→zeF KK (J (i+1)) Jx e S3→Upd (fun k=>¬ (G k∨Rd k)) W2 W3∧((e= .normal∧∃ h ρ',J (i+1) h∧RI KK P Γ N S.h ρ w G W3 h ρ')∨((exC e).isSome=true∧∃ h ρ',Jx e h∧RI KK P Γ N S.h ρ w G W3 h ρ')):=by
    rintro e r0 ⟨S4,hle,hJ4⟩
    obtain ⟨rfl,r3,r5⟩:=r0
    obtain ⟨ρ4,R4,s4,k4⟩:=hle P Γ _ ρ3 a3 W3 r2
    have hri:=step q1 R4.hr (r3.trans s4) (r5.trans k4)
    exact ⟨r3.upd.mono fun b _ hm=>off q1 b hm,hJ4.imp (fun ⟨x,y⟩=>⟨x,S4.h,ρ4,y,hri⟩) (fun ⟨x,y⟩=>⟨x,S4.h,ρ4,y,hri⟩)⟩
   cases e with
   | normal=>
    obtain ⟨rfl,r1⟩:=r1
    obtain ⟨o1,o2⟩:=out _ r3 r1
    rcases o2 with ⟨_,o2⟩ | ⟨o2,_⟩
    ·exact ⟨o1,o2⟩
    ·cases o2
   | ret=>
    obtain ⟨rfl,r1⟩:=r1
    obtain ⟨o1,o2⟩:=out _ r3 r1
    rcases o2 with ⟨o2,_⟩ | ⟨_,o2⟩
    ·cases o2
    ·exact ⟨o1,.ret,rfl,o2⟩
   | exit id=>
    obtain ⟨rfl,r1⟩:=r1
    obtain ⟨o1,o2⟩:=out _ r3 r1
    rcases o2 with ⟨o2,_⟩ | ⟨_,o2⟩
    ·cases o2
    ·exact ⟨o1,.exit id,rfl,o2⟩
   | goto t=>
    obtain ⟨rfl,r1⟩:=r1
    obtain ⟨o1,o2⟩:=out _ r3 r1
    rcases o2 with ⟨o2,_⟩ | ⟨o2,_⟩ <;> cases o2
   | panic c=>exact r1.elim
   | outgrown=>exact r1.elim
 | ret=>exact h1.elim
 | exit id=>exact h1.elim
 | goto t=>exact h1.elim
 | panic c=>exact h1.elim
 | outgrown=>exact h1.elim
theorem Tr.range {F:Fence} (hFw:F=Fence.wide∨∃ l,F=Fence.wide.inRound l) {B L:Nat} {Y:zDD P Γ L} {S:St} {g:Operand} {ps:Array Tmp} {assign body:Code} {Q:QY P Γ L} {k:Nat} {encs:List (Array Value)} (J:Nat→DH→Prop) (Jx:Exit→DH→Prop)
 (hg:opd S.fr g= .it k) (hk:S.h[k]? =some (some (.iter encs))) (hps: ∀ x∈encs,x.size=ps.size) {KK:Nat} (hL:L≤KK) (hfr:S.fr.all (zSf KK)=true) (h0:J 0 (S.h.set k none))
 (hround:zdM P Γ S.fr ps.toList assign body KK J Jx encs) (hdone: ∀ h,J encs.length h→Q .normal ⟨S.fr,h⟩ Y) (hstop: ∀ e h,(exC e).isSome=true→Jx e h→Q e ⟨S.fr,h⟩ Y):Tr P Γ F (some B) L Y (.rangeFunc g ps assign body) S Q:=fun N ρ a w R y m b=>by
 have hx:=zAX R g
 rw [hg] at hx
 obtain ⟨p,hp,hv⟩:=hx
 obtain ⟨p',hp',gf,lb,Rd,⟨e1,e2⟩,q2,q3,q4⟩:=R.hr.obj k _ hk
 have ep:p'=p:=Option.some.inj (hp'.symm.trans hp)
 subst ep
 have hgv:a.eval g= .func (.func gf) #[] lb:=hv.trans e1
 have hng:Γ.ng≤w.heap.size:=Γ.lo _ R.hr.gi
 have hMk: ∀ b,p'.foot b→MO S.h ρ b:=fun b hb=>⟨k,_,p',hk,hp,hb⟩
 have hI0: ∃ h ρ',J 0 h∧RI KK P Γ N S.h ρ w p'.foot w h ρ':=by
  refine ⟨S.h.set k none,ρ,h0,?_,Upd.refl _ _,fun b hb=>.inl (MO.kill hb),fun b hb=>⟨(R.hr.cel k _ p' b hk hp hb).1,.inl (hMk b hb)⟩,zMK.refl _ _⟩
  have H1:zDJ P Γ N (S.h.set k none) ρ w:=R.hr.kill k
  have hsub: ∀ b,MS (fun b=>N b∨p'.foot b) (S.h.set k none) ρ b→MS N S.h ρ b:=fun b hb=>by
   rcases hb with (hb | hb) | hb
   ·exact .inl hb
   ·exact .inr (hMk b hb)
   ·exact .inr (MO.kill hb)
  refine ⟨H1.len,fun i o hi=>?_,fun i o p2 b g1 g2 g3=>?_,H1.dis,fun b hb=>hb.elim (R.hr.nlt b) fun h=>⟨q4 b h,(R.hr.cel k _ p' b hk hp h).1⟩,R.hr.gi⟩
  ·obtain ⟨hne,hi'⟩:=zBT hi
   obtain ⟨p2,hp2,hr⟩:=R.hr.obj i o hi'
   exact ⟨p2,hp2,hr.out (zA7 hsub ρ) (S:=fun _=>False) (Upd.refl _ _) (fun _ h=>h.elim) fun _ _ _ h=>h⟩
  ·obtain ⟨hne,hi'⟩:=zBT g1
   obtain ⟨c1,c2,c3⟩:=R.hr.cel i o p2 b hi' g2 g3
   exact ⟨c1,fun hb=>hb.elim c2 fun hb=>R.hr.dis i k o _ p2 p' b hne hi' hk g2 hp g3 hb,c3⟩
 have hst: ∀ i,zCg (fun G W=>∃ h ρ',J i h∧RI KK P Γ N S.h ρ w G W h ρ'):=fun i G G' A C ⟨h,ρ',h1,h2⟩ hu hg' hb=>⟨h,ρ',h1,h2.stable hng hu hg' hb⟩
 have fin: ∀ {G:Nat→Prop} {W:World} {h:DH} {ρ':List zAJ},RI KK P Γ N S.h ρ w G W h ρ'→zDJ P Γ N h ρ' W:=fun {G W h ρ'} hR=>
  hR.hr.foreign (G:=fun _=>False) (Upd.refl _ _) (fun _ h=>h.elim) (fun b hb=>.inl (.inl hb)) fun b hb=>hR.hr.nlt b (.inl hb)
 have fst: ∀ {G:Nat→Prop} {W:World} {h:DH} {ρ':List zAJ},RI KK P Γ N S.h ρ w G W h ρ'→zBs (MS N h ρ') W ρ' S.fr a.tmps:=fun {G W h ρ'} hR=>
  ((R.fr.take hfr).out hR.outl).out (zA7 (fun b hb=>hb.imp .inl id) ρ')
 have stp: ∀ {G:Nat→Prop} {W:World} {h:DH} {ρ':List zAJ},RI KK P Γ N S.h ρ w G W h ρ'→zCH S.h ρ w h ρ' W:=fun hR=>⟨hR.upd,hR.grow⟩
 have hsx: ∀ c,zCg (fun G W=>∃ e,exC e=some c∧∃ h ρ',Jx e h∧RI KK P Γ N S.h ρ w G W h ρ'):=fun c G G' A C ⟨e,he,h,ρ',h1,h2⟩ hu hg' hb=>⟨e,he,h,ρ',h1,h2.stable hng hu hg' hb⟩
 have kp: ∀ {G:Nat→Prop} {W:World} {h:DH} {ρ':List zAJ},RI KK P Γ N S.h ρ w G W h ρ'→zMK L ρ ρ':=fun hR k p hk hp=>hR.kept k p (Nat.lt_of_lt_of_le hk hL) hp
 rcases hFw with rfl | ⟨l0,rfl⟩
 ·have mk: ∀ {D:Nat} {G:Nat→Prop} {W:World} {h:DH} {ρ':List zAJ},RI KK P Γ N S.h ρ w G W h ρ'→W.heap[D]? =some (.deferred (some []))→w.heap.size≤D→zEC B ({ target:=.collected D,args:=#[] }::a.defers) W:=fun {D G W h ρ'} hR hD hwD=>
   ⟨D,rfl,Nat.le_trans (b.le _ rfl) hwD,hD,fun d' hd' ht=>by have:=zEC.lt m hd' ht;omega,zES R.hr (stp hR) m⟩
  refine zGu hgv e2 q2 (fun b hb=>q4 b hb) (fun b hb=>(q3 b hb).2) hps _ _ hst hsx hI0 (fun l G i x W hx hI hl hgl=>zKt R hfr q3 hround G i x W hx hI hl hgl) ?_ ?_
  ·rintro D G W ⟨h,ρ',h1,hR⟩ hD hGD hwD
   exact ⟨⟨S.fr,h⟩,ρ',N,Y,hdone h h1,⟨fin hR,fst hR⟩,Y.st y R.hr (fin hR) (stp hR) (kp hR),mk hR hD hwD,b.step R.hr (stp hR)⟩
  ·rintro D c G W ⟨e,he,h,ρ',h1,hR⟩ hD hGD hwD
   have hq:=hstop e h (by rw [he];rfl) h1
   cases e with
   | ret=>cases he;exact wpIn_ret ⟨⟨S.fr,h⟩,ρ',N,Y,hq,⟨fin hR,fst hR⟩,Y.st y R.hr (fin hR) (stp hR) (kp hR),mk hR hD hwD,b.step R.hr (stp hR)⟩
   | exit id=>cases he;exact wpIn_exit ⟨⟨S.fr,h⟩,ρ',N,Y,hq,⟨fin hR,fst hR⟩,Y.st y R.hr (fin hR) (stp hR) (kp hR),mk hR hD hwD,b.step R.hr (stp hR)⟩
   | normal=>cases he
   | goto t=>cases he
   | panic c=>cases he
   | outgrown=>cases he
 ·refine zGj hgv e2 (b.rd l0 rfl) q2 (fun b hb=>q4 b hb) (fun b hb=>(q3 b hb).2) hps _ _ hst hsx hI0 (fun l G i x W hx hI hl hgl=>zKt R hfr q3 hround G i x W hx hI hl hgl) ?_ ?_
  ·rintro G W ⟨h,ρ',h1,hR⟩
   exact ⟨⟨S.fr,h⟩,ρ',N,Y,hdone h h1,⟨fin hR,fst hR⟩,Y.st y R.hr (fin hR) (stp hR) (kp hR),zES R.hr (stp hR) m,b.step R.hr (stp hR)⟩
  ·rintro c G W ⟨e,he,h,ρ',h1,hR⟩
   have hq:=hstop e h (by rw [he];rfl) h1
   cases e with
   | ret=>cases he;exact wpIn_ret ⟨⟨S.fr,h⟩,ρ',N,Y,hq,⟨fin hR,fst hR⟩,Y.st y R.hr (fin hR) (stp hR) (kp hR),zES R.hr (stp hR) m,b.step R.hr (stp hR)⟩
   | exit id=>cases he;exact wpIn_exit ⟨⟨S.fr,h⟩,ρ',N,Y,hq,⟨fin hR,fst hR⟩,Y.st y R.hr (fin hR) (stp hR) (kp hR),zES R.hr (stp hR) m,b.step R.hr (stp hR)⟩
   | normal=>cases he
   | goto t=>cases he
   | panic c=>cases he
   | outgrown=>cases he
def zEV {α σ:Type} (f:α→σ→Option (σ×Nat)):List α→σ→Option (σ×Nat)
 | [],s=>some (s,0)
 | x::l,s=>(f x s).bind fun r=>bif r.2==0 then zEV f l r.1 else some r
def zBA {α σ:Type} (f:α→σ→Option σ):List α→σ→Option σ
 | [],s=>some s
 | x::l,s=>(f x s).bind (zBA f l)
theorem zYQ {α σ:Type} (f:α→σ→Option σ): ∀ (l:List α) (s:σ),zEV (fun x s=>(f x s).map fun s'=>(s',0)) l s=(zBA f l s).map fun s'=>(s',0)
 | [],s=>rfl
 | x::l,s=>by
  simp only [zEV,zBA]
  cases f x s with
  | none=>rfl
  | some s'=>exact zYQ f l s'
def zI9 (L:Nat) (ex:List Exit) (c:Nat) (h':DH) (e:Exit) (S:St):Prop:=(Exit.normal::ex)[c]? =some e∧∃ S3,SLe L S S3∧S3.h=h'
def TrA (P:Program) (Γ:Glo) (F:Fence) (B:Option Nat) (L:Nat) (N:zDD P Γ L) (Q:Exit→St→Prop) (assign body:Code) (S:St):Prop:=
 Tr P Γ F B L N assign S (zVs (fun S' Y'=>Y'=N∧∀ N2:zDD P Γ L,TrK P Γ F B L N2 Q [.code body] S') (fun _ _ _=>False))
theorem TrA.go {F:Fence} {B:Option Nat} {L:Nat} {N:zDD P Γ L} {Q:Exit→St→Prop} (hF:FOk F P) (hm:P.follows .mixedOrders=true) {assign body:Code} {S:St} (sch:Sch) (n:Nat) (o:Orc) (live σ:List Nat) (fr:List DV) (h':DH) (vs:List Prop)
 (h:(zET P Γ sch n [.code assign] S o).map (zcr live σ L)=some (.at [],fr,h',vs,[],[],true)) (hv:zDk vs) (hk: ∀ N2:zDD P Γ L,TrK P Γ F B L N2 Q [.code body] ⟨fr,h'⟩):TrA P Γ F B L N Q assign body S:=by
 obtain ⟨S',_,h1,hs⟩:=zXP h
 have T:=zAa (F:=F) (B:=B) (L:=L) (Y:=N) (Q:=fun e S2 Y2=>e= .normal∧Y2=N∧∀ N2:zDD P Γ L,TrK P Γ F B L N2 Q [.code body] S2) hF hm n [.code assign] S o _ _ _ _ h1 hv ⟨rfl,rfl,fun N2=>TrK.le hs rfl (hk N2)⟩
 refine Tr.mono (show Tr P Γ F B L N assign S _ from T) fun e S2 Y2 hq=>?_
 cases e with
 | normal=>exact hq.2
 | ret=>exact absurd hq.1 (by simp)
 | exit id=>exact absurd hq.1 (by simp)
 | goto t=>exact absurd hq.1 (by simp)
 | panic c=>exact absurd hq.1 (by simp)
 | outgrown=>exact absurd hq.1 (by simp)
theorem TrK.rangeFold {F:Fence} (hFw:F=Fence.wide∨∃ l,F=Fence.wide.inRound l) {B L:Nat} {Y:zDD P Γ L} {Q:QY P Γ L} {S:St} {g:Operand} {ps:Array Tmp} {assign body:Code} {k:List KI} {kk:Nat} {α σ:Type} (ex:List Exit) (hex:(ex.all fun e=>(exC e).isSome)=true) (enc:α→Array Value) (l:List α) (H:σ→DH) (f:α→σ→Option (σ×Nat)) {s0:σ} {rE:σ×Nat} (hf:zEV f l s0=some rE)
 (hg:opd S.fr g= .it kk) (hk:S.h[kk]? =some (some (.iter (l.map enc)))) (hps: ∀ x,(enc x).size=ps.size) {K:Nat} (hL:L≤K) (hfr:S.fr.all (zSf K)=true) (h0:S.h.set kk none=H s0)
 (hround: ∀ (l B:Nat) (N:zDD P Γ K) (x:α) (s:σ) (r:σ×Nat),f x s=some r→TrA P Γ (Fence.wide.inRound l) (some B) K N (zI9 K ex r.2 (H r.1)) assign body ⟨zNO S.fr ps.toList (enc x).toList,H s⟩)
 (hdone: ∀ e,(Exit.normal::ex)[rE.2]? =some e→TrE P Γ F (some B) L Q k e ⟨S.fr,H rE.1⟩ Y):TrG P Γ F (some B) L Y Q (.code (.rangeFunc g ps assign body)::k) S:=by
 refine Tr.range (Q:=TrE P Γ F (some B) L Q k) (KK:=K) hFw (fun i h=>∃ s,zEV f (l.drop i) s=some rE∧h=H s) (fun e h=>(Exit.normal::ex)[rE.2]? =some e∧h=H rE.1) hg hk (fun x hx=>?_) hL hfr ⟨s0,hf,h0⟩ ?_ ?_ ?_
 ·obtain ⟨y,_,rfl⟩:=List.mem_map.1 hx
  exact hps y
 ·rintro l' B' N' i x h hx ⟨s,hs,rfl⟩
  rw [List.getElem?_map] at hx
  cases hy:l[i]? with
  | none=>rw [hy] at hx;cases hx
  | some y=>
   rw [hy] at hx
   cases hx
   have hlt:=(List.getElem?_eq_some_iff.1 hy).1
   have hd:l.drop i=y::l.drop (i+1):=by
    rw [List.drop_eq_getElem_cons hlt]
    congr 1
    exact (List.getElem?_eq_some_iff.1 hy).2
   rw [hd] at hs
   obtain ⟨r,h1,h2⟩:=zTb hs
   have T:=hround l' B' N' y s r h1
   have fin: ∀ {e:Exit} {S2:St},zI9 K ex r.2 (H r.1) e S2→zeF K (fun h=>∃ s,zEV f (l.drop (i+1)) s=some rE∧h=H s) (fun e h=>(Exit.normal::ex)[rE.2]? =some e∧h=H rE.1) e S2:=by
    rintro e S2 ⟨r1,S3,r2,r3⟩
    refine ⟨S3,r2,?_⟩
    cases hc:r.2 with
    | zero=>
     rw [hc] at r1 h2
     cases r1
     exact .inl ⟨rfl,r.1,h2,r3⟩
    | succ c=>
     rw [hc] at r1 h2
     cases h2
     have:e∈ex:=List.mem_of_getElem? (i:=c) r1
     exact .inr ⟨List.all_eq_true.1 hex e this,by rw [hc];exact r1,r3⟩
   refine Tr.mono T fun e S2 Y2 hq=>?_
   cases e with
   | normal=>exact ⟨hq.1,fun N2=>Tr.mono (show Tr P Γ (Fence.wide.inRound l') (some B') K N2 body S2 (zdP N2 (zI9 K ex r.2 (H r.1))) from hq.2 N2) fun e S3 Y3 h3=>⟨h3.1,fin h3.2⟩⟩
   | ret=>exact hq.elim
   | exit id=>exact hq.elim
   | goto t=>exact hq.elim
   | panic c=>exact hq.elim
   | outgrown=>exact hq.elim
 ·rintro h ⟨s,hs,rfl⟩
  rw [List.length_map,List.drop_length] at hs
  cases hs
  exact hdone .normal rfl
 ·rintro e h he ⟨h1,rfl⟩
  exact hdone e h1
theorem zEW {F:Fence} {B:Option Nat} {L:Nat} {Y:zDD P Γ L} {Q:QY P Γ L} {S:St} {id:Nat} (h:Q (.exit id) S Y): ∀ (k:List KI),zLC id k=none→TrE P Γ F B L Q k (.exit id) S Y
 | [],_=>h
 | .blk i::k,hp=>by
  unfold zLC at hp
  split at hp
  ·cases hp
  ·rename_i e
   show (if id=i then _ else _)
   rw [if_neg e]
   exact zEW h k hp
 | .code c::k,hp=>zEW (k:=k) h hp
 | .lend J::k,hp=>zEW (k:=k) h hp
 | .scp::k,hp=>zEW (k:=k) h hp
 | .loopN m b::k,hp=>zEW (k:=k) h hp
end
def rgC (t:Nat):Code→Option (Array Tmp×Code×Code)
 | .rangeFunc (.tmp t') ps a b=>if t'=t then some (ps,a,b) else rgC t b
 | .seq a b=>match rgC t a with
  | some r=>some r
  | none=>rgC t b
 | .cond _ a b=>match rgC t a with
  | some r=>some r
  | none=>rgC t b
 | .block _ c=>rgC t c
 | .loop c=>rgC t c
 | .scope c=>rgC t c
 | _=>none
def rgF (f:Func) (t:Nat):Array Tmp×Code×Code:=match f.body with
 | some c=>(rgC t c).getD (#[],.skip,.skip)
 | none=>(#[],.skip,.skip)
def rgB (f:Func) (t:Nat):Code:=(rgF f t).2.2
def rgA (f:Func) (t:Nat):Code:=(rgF f t).2.1
def zAK (f:Func):Code:=f.body.getD .skip
def zeI (id:Nat) (k:List KI):List KI:=(zLC id k).getD []
theorem TrE.exitTo {P:Program} {Γ:Glo} {F:Fence} {B:Option Nat} {L:Nat} {Y:zDD P Γ L} {Q:QY P Γ L} {id:Nat} {k:List KI} {S:St} (h:(zLC id k).isSome=true) (hk:TrG P Γ F B L Y Q (zeI id k) S):TrE P Γ F B L Q k (.exit id) S Y:=by
 unfold zeI at hk
 cases hp:zLC id k with
 | none=>rw [hp] at h;cases h
 | some k'=>rw [hp] at hk;exact zB7 hp hk
def zG0:List KI→Option (Operand×Array Tmp×Code×Code×List KI)
 | .code (.rangeFunc g ps a b)::k=>some (g,ps,a,b,k)
 | _=>none
theorem TrK.rangeAt {P:Program} {Γ:Glo} {F:Fence} (hFw:F=Fence.wide∨∃ l,F=Fence.wide.inRound l) {B L:Nat} {Y:zDD P Γ L} {Q:QY P Γ L} {fr:List DV} {h:DH} {K:List KI} (ex:List Exit) (hex:(ex.all fun e=>(exC e).isSome)=true) (g:Operand) (ps:Array Tmp) (a b:Code) (k2:List KI) {kk:Nat} {α σ:Type} (enc:α→Array Value) (l:List α) (H:σ→DH) (FR:α→List DV) (f:α→σ→Option (σ×Nat)) {s0:σ} {rE:σ×Nat} (hf:zEV f l s0=some rE)
 (hK:zG0 K=some (g,ps,a,b,k2)) (hg:opd fr g= .it kk) (hk:h[kk]? =some (some (.iter (l.map enc)))) (hps: ∀ x,(enc x).size=ps.size) (L':Nat) (hL:Nat.ble L L'=true) (hfb:fr.all (zSf L')=true) (h0:h.set kk none=H s0) (hfr:(fun x=>zNO fr ps.toList (enc x).toList)=FR)
 (hround: ∀ (l B:Nat) (N:zDD P Γ L') (x:α) (s:σ) (r:σ×Nat),f x s=some r→TrA P Γ (Fence.wide.inRound l) (some B) L' N (zI9 L' ex r.2 (H r.1)) a b ⟨FR x,H s⟩)
 (hdone: ∀ e,(Exit.normal::ex)[rE.2]? =some e→TrE P Γ F (some B) L Q k2 e ⟨fr,H rE.1⟩ Y):TrG P Γ F (some B) L Y Q K ⟨fr,h⟩:=by
 unfold zG0 at hK
 split at hK
 ·cases hK
  subst hfr
  exact TrK.rangeFold hFw ex hex enc l H f hf hg hk hps (Nat.le_of_ble_eq_true hL) hfb h0 hround hdone
 ·cases hK
theorem TrK.rangeAt0 {P:Program} {Γ:Glo} {F:Fence} (hFw:F=Fence.wide∨∃ l,F=Fence.wide.inRound l) {B L:Nat} {Y:zDD P Γ L} {Q:QY P Γ L} {fr:List DV} {h:DH} {K:List KI} (g:Operand) (ps:Array Tmp) (a b:Code) (k2:List KI) {kk:Nat} {α σ:Type} (enc:α→Array Value) (l:List α) (H:σ→DH) (FR:α→List DV) (f:α→σ→Option σ) {s0 sE:σ} (hf:zBA f l s0=some sE)
 (hK:zG0 K=some (g,ps,a,b,k2)) (hg:opd fr g= .it kk) (hk:h[kk]? =some (some (.iter (l.map enc)))) (hps: ∀ x,(enc x).size=ps.size) (L':Nat) (hL:Nat.ble L L'=true) (hfb:fr.all (zSf L')=true) (h0:h.set kk none=H s0) (hfr:(fun x=>zNO fr ps.toList (enc x).toList)=FR)
 (hround: ∀ (l B:Nat) (N:zDD P Γ L') (x:α) (s r:σ),f x s=some r→TrA P Γ (Fence.wide.inRound l) (some B) L' N (zI9 L' [] 0 (H r)) a b ⟨FR x,H s⟩)
 (hdone:TrG P Γ F (some B) L Y Q k2 ⟨fr,H sE⟩):TrG P Γ F (some B) L Y Q K ⟨fr,h⟩:=by
 refine TrK.rangeAt hFw [] rfl g ps a b k2 enc l H FR (fun x s=>(f x s).map fun s'=>(s',0)) (rE:=(sE,0)) (by rw [zYQ,hf];rfl) hK hg hk hps L' hL hfb h0 hfr (fun l' B' N' x s r hr=>?_) (fun e he=>?_)
 ·cases hx:f x s with
  | none=>rw [hx] at hr;cases hr
  | some s'=>
   rw [hx] at hr
   cases hr
   exact hround l' B' N' x s s' hx
 ·cases he
  exact hdone
def zQU (t:Nat):List Nat→Code→List KI→Option (List KI)
 | ms,.seq a b,k=>match zQU t ms a (.code b::k) with
  | some r=>some r
  | none=>zQU t ms b k
 | ms,.cond _ a b,k=>match zQU t ms a k with
  | some r=>some r
  | none=>zQU t ms b k
 | ms,.block i c,k=>zQU t ms c (.blk i::k)
 | ms,.scope c,k=>zQU t ms c (.scp::k)
 | m::ms,.loop b,k=>zQU t ms b (.loopN m b::k)
 | _,.rangeFunc (.tmp t') ps a b,k=>if t'=t then some (.code (.rangeFunc (.tmp t') ps a b)::k) else none
 | _,_,_=>none
def atT (c:Code) (t:Nat) (ms:List Nat):List KI:=(zQU t ms c []).getD []
def zA9 (c:Code) (id:Nat) (ms:List Nat):List KI:=(zQV id ms c []).getD []
def zEd (c:Code) (id:Nat) (ms:List Nat):List KI:=(zQW id ms c []).getD []
end Go.Proofs.YtekkngkphejfcaaGreatDoor
namespace Go.Proofs.YtekkngkphejfcaaGreatDoor
open Go.RowKit
abbrev L1 (l:List DV):Nat→DV:=fun j=>l.getD j .any
abbrev zAz {α:Type} [Inhabited α] (c:α→List DV) (l:List α):Nat→Nat→DV:=fun i j=>(c (l.getD i default)).getD j .any
abbrev zYa {α:Type} (c:α→List DV):α→Nat→DV:=fun x j=>(c x).getD j .any
def zAF (c:zAC):List DV:=[.int .i64 c.kind,.ints c.cells,.int .i64 c.set,.int .i64 c.other,.int .i64 c.lo,.int .i64 c.hi,.ints c.runs,.int .i64 c.rule,.int .i64 c.spot]
def zAS (x:List Int):List DV:=[.ints x]
def zTa (x:List Bool):List DV:=[.bools x]
def iiC (x:Int×Int):List DV:=[.int .i64 x.1,.int .i64 x.2]
def zAE (q:zAB):List DV:=[.int .i64 q.cells,.int .i64 q.symbols,.ints q.values,.sl 1 q.nbrs.length (zAz zAS q.nbrs),.sl 9 q.cons.length (zAz zAF q.cons)]
end Go.Proofs.YtekkngkphejfcaaGreatDoor
namespace Go.Proofs.YtekkngkphejfcaaGreatDoor
open Go.RowKit
structure ItC (P:Program) (Γ:Glo) where
 l:Nat
 Rd:Nat→Prop
 encs:List (Array Value)
 J:Nat→(Nat→Prop)→World→Prop
 Jx:(Nat→Prop)→World→Prop
 hJ: ∀ i,zCg (J i)
 hJx:zCg Jx
 lo: ∀ b,b<Γ.ng→Rd b
 hy: ∀ i args G W1,encs[i]? =some args→J i G W1→YieldAt Fence.wide 0 P l args W1 fun e W'=>
  Upd (fun k=>¬ (G k∨Rd k)) W1 W'∧((e= .returned (.bool true)∧J (i+1) G W')∨(e= .returned (.bool false)∧Jx G W'))
def zc2 (P:Program) (Γ:Glo) (L:Nat) (Rd:Nat→Prop) (J:(Nat→Prop)→World→Prop) (hJ:zCg J):zDD P Γ L where
 I:=fun N h ρ w=>∃ G,J G w∧(∀ b,G b→b<w.heap.size)∧(∀ b,MO h ρ b→G b)∧(∀ b,N b↔(b<w.heap.size∧Γ.ng≤b∧¬ G b∧¬ Rd b))
 st:=by
  rintro N h ρ w h' ρ' w' ⟨G,h1,h2,h3,h4⟩ H H' st _
  have hs:=st.upd.size
  refine ⟨fun b=>G b∨(w.heap.size≤b∧b<w'.heap.size),hJ G _ w w' h1 (st.upd.mono fun b _ hb=>h3 b hb) (fun k hk=>hk.imp id fun h=>h.1) (fun k hk=>hk.elim (fun h=>Nat.lt_of_lt_of_le (h2 k h) hs) fun h=>h.2),fun b hb=>hb.elim (fun h=>Nat.lt_of_lt_of_le (h2 b h) hs) fun h=>h.2,fun b hb=>?_,fun b=>?_⟩
  ·rcases st.grow b hb with h | h
   ·exact .inl (h3 b h)
   ·obtain ⟨k,o,p,q1,q2,q3⟩:=hb
    obtain ⟨_,_,c,t,z,e⟩:=H'.cel k o p b q1 q2 q3
    exact .inr ⟨h,(Array.getElem?_eq_some_iff.1 e).1⟩
  ·rw [h4]
   constructor
   ·rintro ⟨a1,a2,a3,a4⟩
    exact ⟨Nat.lt_of_lt_of_le a1 hs,a2,fun hx=>hx.elim a3 fun hx=>by omega,a4⟩
   ·rintro ⟨a1,a2,a3,a4⟩
    have: ¬ (w.heap.size≤b):=fun hx=>a3 (.inr ⟨hx,a1⟩)
    exact ⟨by omega,a2,fun hx=>a3 (.inl hx),a4⟩
section
variable {P:Program} {Γ:Glo}
def ItC.Y (C:ItC P Γ) (L i:Nat):zDD P Γ L:=zc2 P Γ L C.Rd (C.J i) (C.hJ i)
def ItC.X (C:ItC P Γ) (L:Nat):zDD P Γ L:=zc2 P Γ L C.Rd C.Jx C.hJx
def ItC.Q (C:ItC P Γ) (L:Nat):QY P Γ L:=fun e _ Y=>(e= .normal∨e= .ret)∧(Y=C.Y L C.encs.length∨Y=C.X L)
def zcI:DV→Option Value
 | .int k n=>some (.int k n)
 | .bool b=>some (.bool b)
 | _=>none
theorem zYb {M:Nat→Prop} {w:World} {ρ:List zAJ} {d:DV} {v u:Value} (h:zcI d=some v) (hr:zAU M w d ρ u):u=v:=by
 cases d <;> simp only [zcI,Option.some.injEq] at h
 all_goals first | (subst h;exact hr) | (cases h)
def zN8:List DV→Option (List Value)
 | []=>some []
 | d::ds=>match zcI d,zN8 ds with
  | some v,some vs=>some (v::vs)
  | _,_=>none
theorem zLM {M:Nat→Prop} {w:World} {ρ:List zAJ} {f:Operand→Value} {g:Operand→DV} (hr: ∀ x,zAU M w (g x) ρ (f x)): ∀ {l:List Operand} {vs:List Value},zN8 (l.map g)=some vs→l.map f=vs
 | [],vs,h=>by cases h;rfl
 | x::l,vs,h=>by
  simp only [List.map_cons,zN8] at h
  split at h
  ·rename_i v vs' h1 h2
   cases h
   rw [List.map_cons,zYb h1 (hr x),zLM hr h2]
  ·cases h
def zca (P:Program) (Γ:Glo) (ops:Array Oper) (p:Nat) (S:St) (orc:Orc):Option (List Value×Nat×St×St×List Prop):=match zOI P Γ ops (ops.toList.take p) S orc with
 | none=>none
 | some (S1,vs,orc1)=>match ops[p]? with
  | none=>none
  | some o=>match zGv ops S1 o with
   | some true=>match o.op with
    | .call c=>match c.callee with
     | .value f=>match opd S1.fr f with
      | .yl l=>match zN8 (c.args.toList.map (opd S1.fr)) with
       | none=>none
       | some xs=>match zOI P Γ ops (ops.toList.drop (p+1)) ⟨zVj S1.fr o.dst (.bool true),S1.h⟩ orc1 with
        | none=>none
        | some (ST,vT,orc2)=>match zOI P Γ ops (ops.toList.drop (p+1)) ⟨zVj S1.fr o.dst (.bool false),S1.h⟩ orc2 with
         | none=>none
         | some (SF,vF,_)=>some (xs,l,ST,SF,vs++(vT++vF))
      | _=>none
     | _=>none
    | _=>none
   | _=>none
end
section
variable {P:Program} {Γ:Glo} {N:Nat→Prop} {S:St} {ρ:List zAJ} {a:Act} {w:World} {F:Fence}
theorem zHK (hF:FOk F P) {ops:Array Oper} (hnd:zBP ops=true) {Q:Exit→Act→World→Prop} {more:List Oper}: ∀ (l:List Oper) (_: ∀ o∈l,o∈ops) {S:St} {ρ:List zAJ} {a:Act} {w:World} {orc:Orc} {S':St} {vs:List Prop} {orc':Orc},
 Rel P Γ N S ρ a w→zOI P Γ ops l S orc=some (S',vs,orc')→zDk vs→
 (∀ ρ' a' w',Rel P Γ N S' ρ' a' w'→zGJ S.h ρ w S'.h ρ' w'→a'.defers=a.defers→wpListIn F 0 P ops Q more a' w')→wpListIn F 0 P ops Q (l++more) a w
 | [],_,S,ρ,a,w,orc,S',vs,orc',R,h,_,hQ=>by
  cases h
  exact hQ ρ a w R (zGJ.refl _ _ _) rfl
 | o::rest,hl,S,ρ,a,w,orc,S',vs,orc',R,h,hv,hQ=>by
  have hd: ∀ c,o.op≠.defer c:=by
   obtain ⟨j,hj,e⟩:=Array.getElem_of_mem (hl o (by simp))
   exact zAu hnd (j:=j) (by rw [Array.getElem?_eq_getElem hj,e])
  have hl': ∀ o∈rest,o∈ops:=fun o ho=>hl o (by simp [ho])
  have hdef: ∀ v,(a.put o.dst v).defers=a.defers:=fun v=>by cases ho:o.dst <;> simp [Act.put]
  simp only [zOI] at h
  rw [List.cons_append]
  unfold wpListIn
  split at h
  ·split at h
   ·cases h
   ·rename_i S1 vs1 ext1 orc1 h1
    split at h
    ·cases h
    ·rename_i S2 vs2 orc2 h2
     cases h
     obtain ⟨hv1,hv2⟩:=zAO.1 hv
     exact zHM hF R hd h1 hv1 fun ρ' a' w' R' st hdf _=>zHK hF hnd rest hl' R' h2 hv2 fun ρ'' a'' w'' R'' st' hdf'=>hQ ρ'' a'' w'' R'' (st.trans st') (hdf'.trans hdf)
  ·split at h
   ·cases h
   ·rename_i S1 vs1 co1 h1
    split at h
    ·cases h
    ·rename_i S2 vs2 orc2 h2
     cases h
     obtain ⟨hv1,hv2⟩:=zAO.1 hv
     obtain ⟨e1,hs⟩:=zE7 R h1 hv1
     have go: ∀ v,Rel P Γ N S1 ρ (a.put o.dst v) w→wpListIn F 0 P ops Q (rest++more) (a.put o.dst v) w:=fun v R'=>
      zHK hF hnd rest hl' R' h2 hv2 fun ρ'' a'' w'' R'' st' hdf'=>hQ ρ'' a'' w'' R'' (by rw [←e1];exact st') (hdf'.trans (hdef v))
     rcases hs with ⟨hw,v,g1,g2⟩ | ⟨hw,g2⟩
     ·rw [if_pos hw]
      refine ⟨fun f _=>hF.fn f,?_⟩
      rw [Oper.semAt_eq _ _ _ hd,g1 w (Keep.ofExt (Ext.refl w))]
      exact go v g2
     ·rw [if_neg (by rw [hw];exact Bool.false_ne_true)]
      exact ⟨fun f _=>hF.fn f,go undef g2⟩
theorem zNZ {l:Nat} {ρ':Operand→Value} {o:Oper} {c:Call} {f:Operand} {vs:List Value} (ho:o.op= .call c) (hc:c.callee= .value f) (hf:ρ' f= .func (.yield l) #[] #[]) (hv:c.args.toList.map ρ'=vs):(execOp ρ' o).run P w=(Instr.yield l vs.toArray).run P w:=by
 unfold execOp
 rw [ho]
 show ((resolve ρ' c o.type)>>=fun d=>invoke d.target d.args).run P w=_
 unfold resolve
 rw [hc]
 simp only [Deferred.ofValue,hf]
 have e: #[]++Array.map ρ' c.args=vs.toArray:=by
  rw [←hv]
  apply Array.ext'
  simp
 have he:((pure { target:=.fn (.yield l) #[],args:=#[]++Array.map ρ' c.args }:Sem Deferred)>>=fun d=>invoke d.target d.args).run P w=(Instr.yield l (#[]++Array.map ρ' c.args)).run P w:=rfl
 rw [he,e]
theorem Tr.yield {L:Nat} {C:ItC P Γ} {i:Nat} {Q:QY P Γ L} (hF:FOk Fence.wide P) {id:Nat} {ops:Array Oper} {p:Nat} {orc:Orc} {x:Array Value} {ST SF:St} {vs:List Prop} (hnd:zBP ops=true)
 (h:zca P Γ ops p S orc=some (x.toList,C.l,ST,SF,vs)) (hv:zDk vs) (hx:C.encs[i]? =some x) (hT:Q .normal ST (C.Y L (i+1))) (hE:Q .normal SF (C.X L)):Tr P Γ Fence.wide none L (C.Y L i) (.region id ops false) S Q:=fun N ρ a w R y m b=>by
 unfold zca at h
 split at h
 ·cases h
 rename_i S1 vs1 orc1 h1
 split at h
 ·cases h
 rename_i o ho
 split at h
 ·rename_i hw
  split at h
  ·rename_i c hop
   split at h
   ·rename_i f hc
    split at h
    ·rename_i l hl
     split at h
     ·cases h
     rename_i xs hxs
     split at h
     ·cases h
     rename_i ST' vT orc2 h2
     split at h
     ·cases h
     rename_i SF' vF orc3 h3
     cases h
     obtain ⟨hv1,hv'⟩:=zAO.1 hv
     obtain ⟨hvT,hvF⟩:=zAO.1 hv'
     have hp:p<ops.toList.length:=by simpa using (Array.getElem?_eq_some_iff.1 ho).1
     have hsplit:ops.toList=ops.toList.take p++o::ops.toList.drop (p+1):=by
      have e:ops.toList[p]=o:=by
       have:=(Array.getElem?_eq_some_iff.1 ho).2
       simpa using this
      rw [←e,←List.drop_eq_getElem_cons hp,List.take_append_drop]
     have hmem: ∀ o'∈ops.toList,o'∈ops:=fun o' h=>by simpa using h
     have hd: ∀ c,o.op≠.defer c:=zAu hnd ho
     refine wpIn_region_list ?_
     rw [hsplit]
     refine zHK hF hnd _ (fun o' ho'=>hmem o' (List.mem_of_mem_take ho')) R h1 hv1 fun ρ1 a1 w1 R1 st1 hdf1=>?_
     obtain ⟨G,y1,y2,y3,y4⟩:=(C.Y L i).st y R.hr R1.hr st1.st (fun k p _ hp=>st1.pl k p hp)
     obtain ⟨fn,tmps,asg,body,hy,hR⟩:=C.hy i x G w1 hx y1
     unfold wpListIn
     rw [if_pos (zBD R1 hw)]
     have hfv:a1.eval f= .func (.yield C.l) #[] #[]:=by
      have hr:=zAX R1 f
      rw [hl] at hr
      exact hr
     have hav:c.args.toList.map a1.eval=x.toList:=zLM (f:=a1.eval) (g:=opd S1.fr) (fun x=>zAX R1 x) hxs
     refine ⟨fun f _=>hF.fn f,?_⟩
     rw [Oper.semAt_eq _ _ _ hd,zNZ hop hc hfv hav,hy]
     refine ⟨fun hx=>(by cases hx),hR.mono ?_⟩
     have hm1:a1.defers= []:=hdf1.trans m
     rintro e W' ⟨hu,hj⟩
     have hs:=hu.size
     have hu':Upd N w1 W':=hu.mono fun bb hlt hn=>(y4 bb).2 ⟨hlt,Nat.le_of_not_lt fun hx=>hn (.inr (C.lo bb hx)),fun hx=>hn (.inl hx),fun hx=>hn (.inr hx)⟩
     have hG': ∀ bb,N bb→N bb∧Γ.ng≤bb:=fun bb hb=>⟨hb,((y4 bb).1 hb).2.1⟩
     have hN': ∀ bb,(bb<W'.heap.size∧Γ.ng≤bb∧¬ G bb∧¬ C.Rd bb)→N bb∨w1.heap.size≤bb:=fun bb ⟨q1,q2,q3,q4⟩=>by
      rcases Nat.lt_or_ge bb w1.heap.size with h | h
      ·exact .inl ((y4 bb).2 ⟨h,q2,q3,q4⟩)
      ·exact .inr h
     have H':zDJ P Γ (fun bb=>bb<W'.heap.size∧Γ.ng≤bb∧¬ G bb∧¬ C.Rd bb) S1.h ρ1 W':=R1.hr.foreign hu' hG' hN' fun bb ⟨q1,q2,_⟩=>⟨q1,q2⟩
     have base:Rel P Γ (fun bb=>bb<W'.heap.size∧Γ.ng≤bb∧¬ G bb∧¬ C.Rd bb) S1 ρ1 a1 W':=⟨H',R1.fr.out (zDW.foreign (Γ:=Γ) hu' hG' hN')⟩
     have hdef: ∀ v,(a1.put o.dst v).defers=a1.defers:=fun v=>by cases ho:o.dst <;> simp [Act.put]
     rcases hj with ⟨rfl,hj⟩ | ⟨rfl,hj⟩
     ·have R':=zDL base o.dst (d:=.bool true) (v:=.bool true) rfl
      refine zCF hF hnd _ (fun o' ho'=>hmem o' (List.mem_of_mem_drop ho')) R' h2 hvT fun ρ2 a2 w2 R2 st2 hdf2=>?_
      refine ⟨ST,ρ2,_,C.Y L (i+1),hT,R2,(C.Y L (i+1)).st ⟨G,hj,fun bb hb=>Nat.lt_of_lt_of_le (y2 bb hb) hs,y3,fun bb=>Iff.rfl⟩ R'.hr R2.hr st2.st (fun k p _ hp=>st2.pl k p hp),?_,Bd.none⟩
      show a2.defers= []
      rw [hdf2,hdef];exact hm1
     ·have R':=zDL base o.dst (d:=.bool false) (v:=.bool false) rfl
      refine zCF hF hnd _ (fun o' ho'=>hmem o' (List.mem_of_mem_drop ho')) R' h3 hvF fun ρ2 a2 w2 R2 st2 hdf2=>?_
      refine ⟨SF,ρ2,_,C.X L,hE,R2,(C.X L).st ⟨G,hj,fun bb hb=>Nat.lt_of_lt_of_le (y2 bb hb) hs,y3,fun bb=>Iff.rfl⟩ R'.hr R2.hr st2.st (fun k p _ hp=>st2.pl k p hp),?_,Bd.none⟩
      show a2.defers= []
      rw [hdf2,hdef];exact hm1
    ·cases h
   ·cases h
  ·cases h
 ·cases h
end
theorem zYX {P:Program} {f:Nat} {fn:Func} (hf:P.funcs[f]? =some fn) (hb:fn.body.isSome=true) (hn:(fn.name== "runtime.NumGoroutine")=false) (args:Array Value) (W:World):(callFunc f args).run P W= .ok (.enter f args) W:=by
 have hn': ¬ fn.name= "runtime.NumGoroutine" :=by simpa using hn
 have hb': ¬ fn.body=none:=by intro e;rw [e] at hb;cases hb
 simp [callFunc,go_sem,hf,hn',hb']
theorem ES.iterN {P:Program} {Γ:Glo} {f gf m:Nat} {fn:Func} {ds:List DV} {c:Nat→DV} {h0:DH} {encs:List (Array Value)} (hES:ES P Γ f ds [] (.fn gf m c) h0 true) (hds:ds.all zIr=true)
 (hf:P.funcs[gf]? =some fn) (hb:fn.body.isSome=true) (hn:(fn.name== "runtime.NumGoroutine")=false) (hres:fn.results= #[])
 (body: ∀ C:ItC P Γ,C.encs=encs→TrG P Γ Fence.wide none h0.length (C.Y h0.length 0) (C.Q h0.length) [.code (zAK fn)] ⟨.yl C.l::(List.range m).map c++List.replicate (fn.ntmps-(m+1)) .any,h0⟩) (h:DH):ES P Γ f ds h (.it h.length) (h++[some (.iter encs)]) true:=by
 refine ⟨hES.1,fun N ρ w args HR hargs=>?_⟩
 refine (hES.2 (MS N h ρ) [] w args (zGa (fun b hb=>HR.lt2 hb) HR.gi) ⟨hargs.1,fun i hi=>?_⟩).mono ?_
 ·have hx:=zGU (List.all_eq_true.1 hds (ds.getD i .any) (by simp [hi]))
  exact zAU.out _ (zA7 (fun b hb=>zL7.1 hb) []) (hx _ _ _ _ (hargs.2 i hi))
 ·rintro e w' ⟨v,rfl,⟨⟨ρ',g1,g2,g3,g4⟩,g5⟩⟩
  have hE:=g5 rfl
  obtain ⟨lb,hv,hl,hlb⟩:=g2
  have hnew: ∀ b,MO h0 ρ' b→w.heap.size≤b:=fun b hb=>(g3.grow b hb).resolve_left fun ⟨k,o',p',q1,_⟩=>by simp at q1
  have hcell: ∀ b,MO h0 ρ' b→Γ.ng≤b∧¬ MS N h ρ b∧zQ0 w' b:=fun b ⟨k,o,q,q1,q2,q3⟩=>g1.cel k o q b q1 q2 q3
  have hng:Γ.ng≤w.heap.size:=Γ.lo _ HR.gi
  have hsz:=hE.size
  have hlt: ∀ b,MO h0 ρ' b→b<w'.heap.size:=fun b hb=>by
   obtain ⟨_,_,c,t,z,h⟩:=hcell b hb
   exact (Array.getElem?_eq_some_iff.1 h).1
  have lo: ∀ b,b<Γ.ng→b<w'.heap.size∧¬ MS (MS N h ρ) h0 ρ' b:=fun b hb=>⟨Nat.lt_of_lt_of_le hb (Nat.le_trans hng hsz),fun hx=>by
   rcases hx with hx | hx
   ·have:=(HR.lt2 hx).2;omega
   ·have:=(hcell b hx).1;omega⟩
  let p:zAJ:=⟨0,0,0,v,fun b=>MO h0 ρ' b⟩
  have hp: ∀ b,p.foot b→w.heap.size≤b∧zQ0 w' b:=fun b hb=>⟨hnew b hb,(hcell b hb).2.2⟩
  refine ⟨v,rfl,⟨⟨ρ++[p],HR.snoc hE hp ?_,⟨p,by rw [←HR.len];simp,rfl⟩,zCH.snoc HR hE fun b hb=>(hp b hb).1,fun _ _ h=>zAR h⟩,g5⟩⟩
  refine ⟨gf,lb,fun b=>b<w'.heap.size∧¬ MS (MS N h ρ) h0 ρ' b,⟨hv,fun args W=>zYX hf hb hn args W⟩,?_,fun b hb=>⟨fun hm=>?_,hb.1⟩,hlt⟩
  ·intro l J Jx G W hJ hJx hU hG hGlt hY h0J
   let C:ItC P Γ:=⟨l,fun b=>b<w'.heap.size∧¬ MS (MS N h ρ) h0 ρ' b,encs,J,Jx,hJ,hJx,lo,hY⟩
   have T:=body C rfl
   cases hc:fn.body with
   | none=>rw [hc] at hb;cases hb
   | some code=>
   have eb:zAK fn=code:=by unfold zAK;rw [hc];rfl
   rw [eb] at T
   refine callsIn_of_wp hf hc trivial ?_ rfl
   have hN1: ∀ b,(b<W.heap.size∧Γ.ng≤b∧¬ G b∧¬ (b<w'.heap.size∧¬ MS (MS N h ρ) h0 ρ' b))→MS N h ρ b∨w'.heap.size≤b:=fun b ⟨_,_,q3,q4⟩=>by
    rcases Nat.lt_or_ge b w'.heap.size with hx | hx
    ·by_cases hm:MS (MS N h ρ) h0 ρ' b
     ·rcases hm with hm | hm
      ·exact .inl hm
      ·exact absurd (hG b hm) q3
     ·exact absurd ⟨hx,hm⟩ q4
    ·exact .inr hx
   have hu:Upd (fun b=>MS N h ρ b) w' W:=hU.mono fun b hlt hx=>by
    by_cases hm:MS (MS N h ρ) h0 ρ' b
    ·rcases hm with hm | hm
     ·exact hm
     ·exact absurd (.inl hm) hx
    ·exact absurd (.inr ⟨hlt,hm⟩) hx
   have hGm: ∀ b,MS N h ρ b→MS N h ρ b∧Γ.ng≤b:=fun b hb=>⟨hb,(HR.lt2 hb).2⟩
   have HW:zDJ P Γ (fun b=>b<W.heap.size∧Γ.ng≤b∧¬ G b∧¬ (b<w'.heap.size∧¬ MS (MS N h ρ) h0 ρ' b)) h0 ρ' W:=g1.foreign hu hGm hN1 fun b hb=>⟨hb.1,hb.2.1⟩
   have frc:zBs (MS (MS N h ρ) h0 ρ') w' ρ' ((List.range m).map c) lb:=⟨by simp [hl],fun j hj=>by
    have hj':j<m:=by simpa using hj
    obtain ⟨u,q1,q2⟩:=hlb j hj'
    have e1:((List.range m).map c).getD j .any=c j:=by simp [hj']
    have e2:lb.getD j undef=u:=by rw [Array.getD_eq_getD_getElem?,q1];rfl
    rw [e1,e2];exact q2⟩
   have frW:=frc.out (zDW.foreign (Γ:=Γ) hu hGm hN1)
   have fr:zBs (MS (fun b=>b<W.heap.size∧Γ.ng≤b∧¬ G b∧¬ (b<w'.heap.size∧¬ MS (MS N h ρ) h0 ρ' b)) h0 ρ') W ρ' (.yl l::(List.range m).map c++List.replicate (fn.ntmps-(m+1)) .any) (#[.func (.yield l) #[] #[]]++lb++Array.replicate (fn.ntmps-(#[Value.func (.yield l) #[] #[]]++lb).size) undef):=by
    have e3:fn.ntmps-(#[Value.func (.yield l) #[] #[]]++lb).size=fn.ntmps-(m+1):=by simp [hl,Nat.add_comm]
    rw [e3]
    refine zBs.append ?_ (zBs.anys _ _ _ _)
    have:DV.yl l::(List.range m).map c= [DV.yl l]++(List.range m).map c:=rfl
    rw [this]
    exact zBs.append ⟨rfl,fun j hj=>by
     have:j=0:=by simpa using hj
     subst this;rfl⟩ frW
   refine wpIn_mono ((show Tr P Γ Fence.wide none h0.length (C.Y h0.length 0) code _ (TrE P Γ Fence.wide none h0.length (C.Q h0.length) []) from T) _ ρ' _ W ⟨HW,fr⟩ ⟨G,h0J,hGlt,fun b hb=>hG b hb,fun b=>Iff.rfl⟩ rfl Bd.none) ?_
   rintro e a' W' ⟨S',ρ2,N',Y',q1,q2,q3,q4,q5⟩
   have fin:(Y'=C.Y h0.length C.encs.length∨Y'=C.X h0.length)→(∃ G',J encs.length G' W')∨∃ G',Jx G' W':=by
    rintro (rfl | rfl)
    ·obtain ⟨G',k1,_⟩:=q3;exact .inl ⟨G',k1⟩
    ·obtain ⟨G',k1,_⟩:=q3;exact .inr ⟨G',k1⟩
   cases e with
   | normal=>exact bodyPost_end (results_none hres _ _ _) q4 ⟨⟨_,rfl⟩,fin q1.2⟩
   | ret=>exact bodyPost_ret (results_none hres _ _ _) q4 ⟨⟨_,rfl⟩,fin q1.2⟩
   | exit id=>exact absurd q1.1 (by simp)
   | goto t=>exact absurd q1.1 (by simp)
   | panic ch=>exact q1.elim
   | outgrown=>exact q1.elim
  ·rcases hm with hm | hm
   ·exact hb.2 (.inl (.inl hm))
   ·rcases MO.snoc HR hm with hm | hm
    ·exact hb.2 (.inl (.inr hm))
    ·exact hb.2 (.inr hm)
section
variable {P:Program} {Γ:Glo}
def zKq:List KI→Option (Array Oper×List KI)
 | .code (.region _ ops false)::k=>some (ops,k)
 | _=>none
def zdw (live σ:List Nat) (L:Nat) (r:List Value×Nat×St×St×List Prop):List Value×Nat×List DV×DH×List DV×DH×List Prop×Bool:=
 (r.1,r.2.1,(Proofs.YtekkngkphejfcaaGreatDoor.comp live σ r.2.2.1).fr,(Proofs.YtekkngkphejfcaaGreatDoor.comp live σ r.2.2.1).h,(Proofs.YtekkngkphejfcaaGreatDoor.comp live σ r.2.2.2.1).fr,(Proofs.YtekkngkphejfcaaGreatDoor.comp live σ r.2.2.2.1).h,r.2.2.2.2,zZF σ L r.2.2.1.h.length&&zZF σ L r.2.2.2.1.h.length)
theorem TrG.yieldAt {L:Nat} {C:ItC P Γ} {i:Nat} {Q:QY P Γ L} {S:St} {K k:List KI} {ops:Array Oper} (hF:FOk Fence.wide P) (hK:zKq K=some (ops,k)) (hnd:zBP ops=true) (p:Nat) (orc:Orc) {x:Array Value} (live σ:List Nat) (frT:List DV) (hT:DH) (frF:List DV) (hE:DH) (vs:List Prop)
 (h:(zca P Γ ops p S orc).map (zdw live σ L)=some (x.toList,C.l,frT,hT,frF,hE,vs,true)) (hv:zDk vs) (hx:C.encs[i]? =some x) (hc:zFz k=true) (hkT:TrG P Γ Fence.wide none L (C.Y L (i+1)) Q k ⟨frT,hT⟩) (hkF:TrG P Γ Fence.wide none L (C.X L) Q k ⟨frF,hE⟩):TrG P Γ Fence.wide none L (C.Y L i) Q K S:=by
 unfold zKq at hK
 split at hK
 ·rename_i id ops' k'
  cases hK
  cases hr:zca P Γ ops p S orc with
  | none=>rw [hr] at h;cases h
  | some r=>
   obtain ⟨xs,l,ST,SF,vs1⟩:=r
   rw [hr] at h
   simp only [Option.map_some,zdw,Option.some.injEq,Prod.mk.injEq,Bool.and_eq_true] at h
   obtain ⟨rfl,rfl,rfl,rfl,rfl,rfl,rfl,s1,s2⟩:=h
   exact Tr.yield hF hnd hr hv hx (TrK.le (SLe.comp live σ ST s1) hc hkT) (TrK.le (SLe.comp live σ SF s2) hc hkF)
 ·cases hK
theorem zXh {α β:Type} {o:Option α} {f:α→β} {r:β} (h:o.map f=some r): ∃ a,o=some a∧r=f a:=by
 cases o with
 | none=>cases h
 | some a=>cases h;exact ⟨a,rfl,rfl⟩
theorem zTR {α β:Type} {l:List β} {i:Nat} {f:α→β} {x:α} {r:List α} (hd:l.drop i=(x::r).map f):l[i]? =some (f x)∧i+1≤l.length∧l.drop (i+1)=r.map f:=by
 have hlt:i<l.length:=by
  rcases Nat.lt_or_ge i l.length with h | h
  ·exact h
  ·rw [List.drop_eq_nil_of_le h] at hd;cases hd
 rw [List.drop_eq_getElem_cons hlt] at hd
 injection hd with h1 h2
 exact ⟨by rw [List.getElem?_eq_getElem hlt,h1],hlt,h2⟩
theorem zR5 {α β:Type} {l:List β} {i:Nat} {f:α→β} (hi:i≤l.length) (hd:l.drop i=([]:List α).map f):i=l.length:=by
 have:=congrArg List.length hd
 simp at this
 omega
end
def zD1 (x:Int):Array Value:=#[.int .i64 x]
def zR3 (x:Int×Int):Array Value:=#[.int .i64 x.1,.int .i64 x.2]
end Go.Proofs.YtekkngkphejfcaaGreatDoor
namespace Go.Proofs.YtekkngkphejfcaaGreatDoor
open Go.RowKit
structure HX (F:Fence) (P:Program):Prop where
 f:FOk F P
 m:P.follows .mixedOrders=true
structure HS (c:List (DV×DH×Bool)) (o:List (Nat×DV)) (z:List (Nat×Fz)) (v:List Prop):Prop where
 all:zDk v
section
variable {P:Program} {Γ:Glo} {cs:List (DV×DH×Bool)} {os:List (Nat×DV)} {zs:List (Nat×Fz)} {vs:List Prop}
theorem H0:HS [] [] [] []:=⟨trivial⟩
theorem HS.add (q:HS cs os zs vs) {c':List (DV×DH×Bool)} {o':List (Nat×DV)} {z':List (Nat×Fz)} {p:Prop} (h:p):HS c' o' z' (vs++[p]):=⟨zAO.2 ⟨q.all,h,trivial⟩⟩
theorem HS.o (q:HS cs os zs vs) (t:Nat) {d d':DV} (x:DLe d d'):HS cs (os++[(t,d')]) zs (vs++[DLe d d']):=q.add x
theorem HS.b (q:HS cs os zs vs) (t:Nat) {a b:Bool} (x:a=b):HS cs (os++[(t,.bool b)]) zs (vs++[DLe (.bool a) (.bool b)]):=q.add (DLe.bool x)
theorem HS.w (q:HS cs os zs vs) (t:Nat) {x:Int} (h:R64 x):HS cs (os++[(t,.int .i64 x)]) zs (vs++[DLe (.int .i64 (IntKind.i64.wrap x)) (.int .i64 x)]):=q.add (zeO h)
theorem HS.g (q:HS cs os zs vs) {p:Prop} (x:p):HS cs os zs (vs++[p]):=q.add x
theorem HS.t (q:HS cs os zs vs):HS cs os zs (vs++[True]):=q.add trivial
theorem HS.c (q:HS cs os zs vs) {f:Nat} {ds:List DV} {h:DH} {d:DV} {h':DH} {e:Bool} (x:ES P Γ f ds h d h' e):HS (cs++[(d,h',e)]) os zs (vs++[ES P Γ f ds h d h' e]):=q.add x
theorem HS.a (q:HS cs os zs vs) (t k m:Nat) {n n':Nat} {f f':Nat→Nat→DV} (x:n=n'∧∀ i j,i<n→j<m→DLe (f i j) (f' i j)):HS cs os (zs++[(t,.arr k n' f')]) (vs++[n=n'∧∀ i j,i<n→j<m→DLe (f i j) (f' i j)]):=q.add x
theorem HS.z (q:HS cs os zs vs) (t k:Nat):HS cs os (zs++[(t,.frz k)]) vs:=⟨q.all⟩
end
theorem ES.emC {P:Program} {Γ:Glo} {f:Nat} {ds:List DV} {h:DH} {d:DV} {h':DH} {ext:Bool} (hES:ES P Γ f ds h d h' ext) (σ:List Nat) (H:DH) (hb:zdD σ H.length h.length h'.length=true) (hh:(σ.map fun k=>H.getD k none)=h.map (upO σ H.length)):ES P Γ f (ds.map (up σ H.length)) H (up σ H.length d) (zQz H σ h') ext:=
 hES.embedB σ H hb hh rfl
theorem zQy {α:Type} [Inhabited α] (c:α→List DV) (L:List α) (n m:Nat) (h: ∀ x,(c x).all zXQ=true∧m=(c x).length): ∀ i j,i<n→j<m→zXQ (zAz c L i j)=true:=fun i j _ hj=>zaG (h _).1 (h _).2 j hj
def frzL:List Nat→St→Option (St×List Prop)
 | [],S=>some (S,[])
 | k::ks,S=>match zc8 k S with
  | some (S',vs)=>match frzL ks S' with
   | some (S'',vs')=>some (S'',vs++vs')
   | none=>none
  | none=>none
theorem SLe.frzL {L:Nat}: ∀ (ks:List Nat) {S S':St} {vs:List Prop},Proofs.YtekkngkphejfcaaGreatDoor.frzL ks S=some (S',vs)→zDk vs→SLe L S S'
 | [],S,S',vs,h,_=>by cases h;exact SLe.refl L S
 | k::ks,S,S',vs,h,hv=>by
  simp only [Proofs.YtekkngkphejfcaaGreatDoor.frzL] at h
  split at h
  ·rename_i S1 vs1 h1
   split at h
   ·rename_i S2 vs2 h2
    cases h
    obtain ⟨hv1,hv2⟩:=zAO.1 hv
    exact (SLe.frzE k S1 vs1 h1 hv1).trans (SLe.frzL ks h2 hv2)
   ·cases h
  ·cases h
abbrev zdl:=List Prop×List Prop×List (DV×DH×Bool)×List (Nat×DV)×Bool
def zcT (σ:List Nat) (L:Nat) (w:List Prop) (r:KO×St×List Prop×Orc):zdl:=(r.2.2.1,w,r.2.2.2.calls,r.2.2.2.co,zZF σ L r.2.1.h.length)
def zbB (live σ:List Nat) (L:Nat) (ks:List Nat) (r:KO×St×List Prop×Orc):Option (KO×List DV×DH×zdl):=match frzL ks (comp live σ r.2.1) with
 | some (S,w)=>some (r.1,S.fr,S.h,zcT σ L w r)
 | none=>none
def koE:KO→Option Exit
 | .ret=>some .ret
 | .at []=>some .normal
 | .at (.code (.exit i)::k)=>if (zLC i k).isNone then some (.exit i) else none
 | _=>none
def zY4 (P:Program) (live σ:List Nat) (L:Nat) (ks:List Nat) (fn:Func) (d:DV) (l2:Nat) (r:KO×St×List Prop×Orc):Option (Bool×List DV×DH×zdl):=match frzL ks (comp live σ r.2.1) with
 | some (S,w)=>match zcS P S fn.results.toList with
  | some rs=>some ((match r.1 with | .ret=>true | .at []=>true | _=>false)&&(decide (S.h.length≤l2)||(S.h.all zRc&&zIr d&&decide (L≤S.h.length))),rs,(if S.h.length≤l2 then S.h else (zBJ (List.range L) S).h),zcT σ L w r)
  | none=>none
 | none=>none
def zdx (σ:List Nat) (L:Nat) (r:KO×St×List Prop×Orc):Option Exit×DH×zdl:=(koE r.1,(comp [] σ r.2.1).h,zcT σ L [] r)
section
variable {P:Program} {Γ:Glo} {F:Fence} {B:Option Nat} {L:Nat} {Y N:zDD P Γ L} {Q:QY P Γ L} {k k':List KI} {S:St} {fr:List DV} {h' h2:DH} {c:List (DV×DH×Bool)} {o:List (Nat×DV)} {z:List (Nat×Fz)} {v w:List Prop}
theorem zXO {live σ ks:List Nat} {r:KO×St×List Prop×Orc} {r1:KO} (h:zbB live σ L ks r=some (r1,fr,h',v,w,[],[],true)) (hw:zDk w):r.1=r1∧r.2.2.1=v∧SLe L r.2.1 ⟨fr,h'⟩:=by
 unfold zbB at h
 split at h
 ·rename_i S1 w1 hf
  simp only [zcT,Option.some.injEq,Prod.mk.injEq] at h
  obtain ⟨rfl,rfl,rfl,rfl,rfl,_,_,hs⟩:=h
  exact ⟨rfl,rfl,(SLe.comp live σ r.2.1 hs).trans (SLe.frzL ks hf hw)⟩
 ·cases h
theorem TrK.gS (hX:HX F P) (sch:Sch) (n:Nat) (live σ:List Nat) (tg:List (List (Nat×Nat)×St)) (hl:HS c o z v) (ks:List Nat) (hz:HS [] [] [] w) (k':List KI) (fr:List DV) (h':DH)
 (h:(zET P Γ sch n k S ⟨c,o,z,tg⟩).bind (zbB live σ L ks)=some (.at k',fr,h',v,w,[],[],true)) (hc:zFz k'=true) (hk:TrG P Γ F B L Y Q k' ⟨fr,h'⟩):TrG P Γ F B L Y Q k S:=by
 cases hr:zET P Γ sch n k S ⟨c,o,z,tg⟩ with
 | none=>rw [hr] at h;cases h
 | some r=>
  obtain ⟨r1,S1,v1,o1⟩:=r
  rw [hr] at h
  obtain ⟨e1,e2,hs⟩:=zXO (r:=(r1,S1,v1,o1)) h hz.all
  have e1:r1= .at k':=e1
  have e2:v1=v:=e2
  subst e1 e2
  exact zAa hX.f hX.m n k S _ _ _ _ _ hr hl.all (TrK.le hs hc hk)
theorem TrK.el (hX:HX F P) {fn:Func} {d:DV} (sch:Sch) (n:Nat) (live σ:List Nat) (tg:List (List (Nat×Nat)×St)) (hl:HS c o z v) (ks:List Nat) (hz:HS [] [] [] w) (rs:List DV) (le:DLe (zY3 rs) d)
 (h:(zET P Γ sch n k S ⟨c,o,z,tg⟩).bind (zY4 P live σ L ks fn d h2.length)=some (true,rs,h2,v,w,[],[],true)):TrK P Γ F B L N (Fin P fn L d h2) k S:=by
 cases hr:zET P Γ sch n k S ⟨c,o,z,tg⟩ with
 | none=>rw [hr] at h;cases h
 | some r=>
  obtain ⟨r1,S1,v1,o1⟩:=r
  rw [hr] at h
  have h:zY4 P live σ L ks fn d h2.length (r1,S1,v1,o1)=some (true,rs,h2,v,w,[],[],true):=h
  unfold zY4 at h
  split at h
  ·rename_i S2 w1 hf
   split at h
   ·rename_i rs' hrs
    simp only [zcT,Option.some.injEq,Prod.mk.injEq,Bool.and_eq_true] at h
    obtain ⟨⟨hret,hq⟩,rfl,hh,rfl,rfl,_,_,hs⟩:=h
    have hS:SLe L S1 S2:=(SLe.comp live σ S1 hs).trans (SLe.frzL ks hf hz.all)
    have fin: ∀ e,(e= .normal∨e= .ret)→Fin P fn L d h2 e S1:=fun e he=>by
     refine Fin.le hS ⟨he,S2,SLe.refl _ _,rs',hrs,?_⟩
     by_cases hlen:S2.h.length≤h2.length
     ·rw [if_pos hlen] at hh;exact .inl ⟨le,hh⟩
     ·rw [if_neg hlen] at hh
      simp only [hlen,decide_false,Bool.false_or,Bool.and_eq_true,decide_eq_true_eq] at hq
      exact .inr ⟨zXZ hq.1.1,le,zGU hq.1.2,hq.2,hh⟩
    refine zAa hX.f hX.m n k S _ _ _ _ _ hr hl.all ?_
    rcases r1 with (_ | ⟨_,_⟩) | _
    ·exact ⟨rfl,fin _ (.inl rfl)⟩
    ·cases hret
    ·exact ⟨rfl,fin _ (.inr rfl)⟩
   ·cases h
  ·cases h
theorem TrK.e (hX:HX F P) {fn:Func} {d:DV} (sch:Sch) (n:Nat) (live σ:List Nat) (tg:List (List (Nat×Nat)×St)) (hl:HS c o z v) (ks:List Nat) (hz:HS [] [] [] w)
 (h:(zET P Γ sch n k S ⟨c,o,z,tg⟩).bind (fun r=>(zY4 P live σ L ks fn d h2.length r).map fun q=>(q.1,zY3 q.2.1,q.2.2))=some (true,d,h2,v,w,[],[],true)):TrK P Γ F B L N (Fin P fn L d h2) k S:=by
 cases hr:zET P Γ sch n k S ⟨c,o,z,tg⟩ with
 | none=>rw [hr] at h;cases h
 | some r=>
  rw [hr] at h
  have h:(zY4 P live σ L ks fn d h2.length r).map (fun q=>(q.1,zY3 q.2.1,q.2.2))=some (true,d,h2,v,w,[],[],true):=h
  cases hq:zY4 P live σ L ks fn d h2.length r with
  | none=>rw [hq] at h;cases h
  | some q=>
   obtain ⟨q1,rs,q3⟩:=q
   rw [hq] at h
   simp only [Option.map_some,Option.some.injEq,Prod.mk.injEq] at h
   obtain ⟨rfl,hd,rfl⟩:=h
   exact TrK.el hX sch n live σ tg hl ks hz rs (DLe.of_eq hd) (by rw [hr];exact hq)
theorem TrK.r (hX:HX F P) {ex:List Exit} {i:Nat} {e:Exit} (sch:Sch) (n:Nat) (σ:List Nat) (tg:List (List (Nat×Nat)×St)) (hl:HS c o z v) (he:(Exit.normal::ex)[i]? =some e)
 (h:(zET P Γ sch n k S ⟨c,o,z,tg⟩).map (zdx σ L)=some (some e,h2,v,[],[],[],true)):TrK P Γ F B L N (zI9 L ex i h2) k S:=by
 cases hr:zET P Γ sch n k S ⟨c,o,z,tg⟩ with
 | none=>rw [hr] at h;cases h
 | some r=>
  obtain ⟨r1,S1,v1,o1⟩:=r
  rw [hr] at h
  simp only [Option.map_some,zdx,zcT,Option.some.injEq,Prod.mk.injEq] at h
  obtain ⟨hk,hh,rfl,_,_,_,hs⟩:=h
  have fin:zdP N (zI9 L ex i h2) e S1 N:=⟨rfl,he,_,SLe.comp [] σ S1 hs,hh⟩
  refine zAa hX.f hX.m n k S _ _ _ _ _ hr hl.all ?_
  unfold koE at hk
  split at hk
  ·cases hk;exact fin
  ·cases hk;exact fin
  ·rename_i i' k'
   split at hk
   ·rename_i hp
    cases hk
    exact Tr.exit (zEW fin k' (Option.isNone_iff_eq_none.1 hp))
   ·cases hk
  ·cases hk
theorem TrA.g (hX:HX F P) {Q:Exit→St→Prop} {assign body:Code} (sch:Sch) (n:Nat) (live σ:List Nat) (hl:HS c o z v) (fr:List DV) (h':DH)
 (h:(zET P Γ sch n [.code assign] S ⟨c,o,z,[]⟩).map (zcr live σ L)=some (.at [],fr,h',v,[],[],true)) (hk: ∀ N2:zDD P Γ L,TrK P Γ F B L N2 Q [.code body] ⟨fr,h'⟩):TrA P Γ F B L N Q assign body S:=
 TrA.go hX.f hX.m sch n _ live σ fr h' v h hl.all hk
end
section
variable {P:Program} {Γ:Glo} {L:Nat} {k:List KI} {S:St} {c:List (DV×DH×Bool)} {o:List (Nat×DV)} {z:List (Nat×Fz)} {v:List Prop}
theorem TrI.e {C:ItC P Γ} {Y:zDD P Γ L} (hX:HX Fence.wide P) (sch:Sch) (n:Nat) (hl:HS c o z v)
 (h:(zET P Γ sch n k S ⟨c,o,z,[]⟩).map (fun r=>((match r.1 with | .ret=>true | .at []=>true | _=>false),r.2.2.1))=some (true,v)) (hY:Y=C.Y L C.encs.length∨Y=C.X L):TrG P Γ Fence.wide none L Y (C.Q L) k S:=by
 cases hr:zET P Γ sch n k S ⟨c,o,z,[]⟩ with
 | none=>rw [hr] at h;cases h
 | some r=>
  obtain ⟨r1,S1,vs1,o1⟩:=r
  rw [hr] at h
  simp only [Option.map_some,Option.some.injEq,Prod.mk.injEq] at h
  obtain ⟨h1,rfl⟩:=h
  refine zAa hX.f hX.m n k S _ _ _ _ _ hr hl.all ?_
  rcases r1 with (_ | ⟨_,_⟩) | _
  ·exact ⟨.inl rfl,hY⟩
  ·cases h1
  ·exact ⟨.inr rfl,hY⟩
theorem TrG.y {C:ItC P Γ} {i:Nat} {Q:QY P Γ L} {K:List KI} {ops:Array Oper} (hX:HX Fence.wide P) (p:Nat) (live σ:List Nat) (hl:HS c o z v) {x:Array Value} (frT:List DV) (hT:DH) (frF:List DV) (hE:DH)
 (hK:zKq K=some (ops,zD4 K)) (hnd:zBP ops=true) (h:(zca P Γ ops p S ⟨c,o,z,[]⟩).map (zdw live σ L)=some (x.toList,C.l,frT,hT,frF,hE,v,true)) (hx:C.encs[i]? =some x) (hc:zFz (zD4 K)=true) (hkT:TrG P Γ Fence.wide none L (C.Y L (i+1)) Q (zD4 K) ⟨frT,hT⟩) (hkF:TrG P Γ Fence.wide none L (C.X L) Q (zD4 K) ⟨frF,hE⟩):TrG P Γ Fence.wide none L (C.Y L i) Q K S:=
 TrG.yieldAt hX.f hK hnd p _ live σ frT hT frF hE v h hl.all hx hc hkT hkF
end
section
variable {P:Program} {Γ:Glo} {F:Fence} {B L:Nat} {Y:zDD P Γ L} {Q:QY P Γ L} {fr:List DV} {h:DH} {K:List KI} {a b:Code} {α σ:Type} {l:List α} {H:σ→DH} {FR:α→List DV}
theorem TrK.rg (hFw:F=Fence.wide∨∃ l,F=Fence.wide.inRound l) (ex:List Exit) (hex:(ex.all fun e=>(exC e).isSome)=true) (kk t:Nat) (ps:Array Tmp) (enc:α→Array Value) (L':Nat) {f:α→σ→Option (σ×Nat)} {s0:σ} {rE:σ×Nat} (hf:zEV f l s0=some rE)
 (hround: ∀ (l B:Nat) (N:zDD P Γ L') (x:α) (s:σ) (r:σ×Nat),f x s=some r→TrA P Γ (Fence.wide.inRound l) (some B) L' N (zI9 L' ex r.2 (H r.1)) a b ⟨FR x,H s⟩)
 (hK:zG0 K=some (.tmp t,ps,a,b,zD4 K)) (hg:opd fr (.tmp t)= .it kk) (hk:h[kk]? =some (some (.iter (l.map enc)))) (hps: ∀ x,(enc x).size=ps.size) (hL:Nat.ble L L'=true) (hfb:fr.all (zSf L')=true) (h0:h.set kk none=H s0) (hfr:(fun x=>zNO fr ps.toList (enc x).toList)=FR)
 (hdone: ∀ e,(Exit.normal::ex)[rE.2]? =some e→TrE P Γ F (some B) L Q (zD4 K) e ⟨fr,H rE.1⟩ Y):TrG P Γ F (some B) L Y Q K ⟨fr,h⟩:=
 TrK.rangeAt hFw ex hex (.tmp t) ps a b (zD4 K) enc l H FR f hf hK hg hk hps L' hL hfb h0 hfr hround hdone
theorem TrK.rg0 (hFw:F=Fence.wide∨∃ l,F=Fence.wide.inRound l) (kk t:Nat) (ps:Array Tmp) (enc:α→Array Value) (L':Nat) {f:α→σ→Option σ} {s0 sE:σ} (hf:zBA f l s0=some sE)
 (hround: ∀ (l B:Nat) (N:zDD P Γ L') (x:α) (s r:σ),f x s=some r→TrA P Γ (Fence.wide.inRound l) (some B) L' N (zI9 L' [] 0 (H r)) a b ⟨FR x,H s⟩)
 (hK:zG0 K=some (.tmp t,ps,a,b,zD4 K)) (hg:opd fr (.tmp t)= .it kk) (hk:h[kk]? =some (some (.iter (l.map enc)))) (hps: ∀ x,(enc x).size=ps.size) (hL:Nat.ble L L'=true) (hfb:fr.all (zSf L')=true) (h0:h.set kk none=H s0) (hfr:(fun x=>zNO fr ps.toList (enc x).toList)=FR)
 (hdone:TrG P Γ F (some B) L Y Q (zD4 K) ⟨fr,H sE⟩):TrG P Γ F (some B) L Y Q K ⟨fr,h⟩:=
 TrK.rangeAt0 hFw (.tmp t) ps a b (zD4 K) enc l H FR f hf hK hg hk hps L' hL hfb h0 hfr hround hdone
end
end Go.Proofs.YtekkngkphejfcaaGreatDoor
namespace Go.Proofs.YtekkngkphejfcaaGreatDoor
open Go.RowKit
abbrev LK:=Nat×Array MapEntry×Nat
theorem zUe {i:Nat}:zaQ none i:=fun _ h=>by cases h
theorem zUd {i j:Nat} {g:LK} (h:i≠j):zaQ (some (i,g)) j:=fun y e=>by cases e;exact h
def zFP {R:Type} [DecidableEq R] (rem:KS) (a:Option R) (f:List Int→Option R):Option R:=match rem with
 | []=>a
 | x::r=>match f x with
  | none=>none
  | some v=>if r.all (fun y=>decide (f y=some v)) then some v else none
theorem zE9 {R:Type} [DecidableEq R] {rem:KS} {a:Option R} {f:List Int→Option R} {r:R} (h:zFP rem a f=some r):(rem= []→a=some r)∧∀ y∈rem,f y=some r:=by
 cases rem with
 | nil=>exact ⟨fun _=>h,fun y hy=>absurd hy List.not_mem_nil⟩
 | cons x l=>
  refine ⟨fun e=>absurd e (List.cons_ne_nil x l),?_⟩
  unfold zFP at h
  simp only at h
  cases hx:f x with
  | none=>rw [hx] at h;cases h
  | some v=>
   rw [hx] at h
   simp only at h
   split at h
   ·rename_i hc
    cases h
    intro y hy
    rcases List.mem_cons.1 hy with rfl | hy
    ·exact hx
    ·exact of_decide_eq_true (List.all_eq_true.1 hc y hy)
   ·cases h
theorem zMr {R:Type} [DecidableEq R] {a:Option R} {f:List Int→Option R}:zFP [] a f=a:=rfl
theorem zXR {R:Type} [DecidableEq R] {rem:KS} {a:Option R} {f:List Int→Option R} {r:R} (hn:rem≠[]) (h: ∀ y∈rem,f y=some r):zFP rem a f=some r:=by
 cases rem with
 | nil=>exact absurd rfl hn
 | cons x l=>
  unfold zFP
  simp only [h x (by simp)]
  rw [if_pos]
  exact List.all_eq_true.2 fun y hy=>decide_eq_true (h y (by simp [hy]))
theorem zRK {P:Program} {w:World} {r bm since c0 clock:Nat} {seen:Array Nat} {es:Array MapEntry} (hr:w.heap[r]? =some (.mapIter (some bm) since seen c0)) (hb:w.heap[bm]? =some (.map es clock)) (hold: ∀ x∈es.toList,x.born<since) (hsc:since≤c0) (ty:TypeId):
 ((leftOf es seen).size=0∧(Instr.next (.pointer (some ⟨r,0,none⟩)) false ty).run P w= .ok (.tuple #[.bool false]) w)∨
 ∃ e∈(leftOf es seen).toList,∃ w1:World,(w1=w∨w1=w.drew)∧(Instr.next (.pointer (some ⟨r,0,none⟩)) false ty).run P w= .ok (.tuple #[.bool true,e.key,e.val]) { w1 with heap:=w1.heap.setIfInBounds r (.mapIter (some bm) since (seen.push e.born) clock) }:=by
 simp only [Instr.next,getObj,Sem.run_bind,Sem.run,hr,hb,Result.andThen,next_test_false seen es since c0 hold hsc,Bool.false_eq_true,if_false]
 unfold leftOf
 have hmem: ∀ x∈(Array.filter (fun e=>!seen.contains e.born) es).toList,x.born<since:=fun x hx=>hold x (by simp at hx ⊢;exact hx.1)
 generalize Array.filter (fun e=>!seen.contains e.born) es=L at hmem ⊢
 have e1:L.filter (fun x=>decide (x.born<since))=L:=Array.filter_eq_self.2 (fun x hx=>by simpa using hmem x (by simpa using hx))
 have e2:L.filter (fun x=>decide (x.born≥since))= #[]:=by
  rw [Array.filter_eq_empty_iff]
  intro x hx
  have:=hmem x (by simpa using hx)
  simp
  omega
 simp only [e1,e2,Array.append_empty]
 by_cases h0:L.size=0
 ·left
  have:L= #[]:=Array.eq_empty_of_size_eq_zero h0
  subst this
  refine ⟨rfl,?_⟩
  simp [choose,Sem.run,Question.forced]
 ·right
  have hne:L.isEmpty=false:=by simp [Array.isEmpty,h0]
  simp only [hne,Bool.false_eq_true,if_false,Array.empty_append,Array.size_map]
  have hch: ∃ (j:Nat) (w1:World),j<L.size∧(w1=w∨w1=w.drew)∧(choose (Question.mapNext L.size)).run P w= .ok j w1:=by
   by_cases hf:L.size≤1
   ·exact ⟨0,w,by omega,.inl rfl,by simp [choose,Sem.run,Question.forced,hf]⟩
   ·exact ⟨_,w.drew,Nat.mod_lt _ (by omega),.inr rfl,by
     simp only [choose,Sem.run,Question.forced,decide_eq_true_eq,hf,if_false,Question.cut]
     rfl⟩
  obtain ⟨j,w1,hj,hal,hrun⟩:=hch
  have hr1:w1.heap[r]? =some (.mapIter (some bm) since seen c0):=by rcases hal with rfl | rfl <;> exact hr
  refine ⟨L[j],by simp,w1,hal,?_⟩
  simp only [hrun,Array.getElem?_map,Array.getElem?_eq_getElem hj,Option.map_some,Sem.run_bind,setObj,Sem.run,hr1,Result.andThen]
  rfl
section
variable {P:Program} {Γ:Glo} {N:Nat→Prop} {S:St} {ρ:List zAJ} {a:Act} {w:World} {F:Fence} {B:Option Nat} {L:Nat} {Y:zDD P Γ L} {Q:QY P Γ L}
theorem Rel.setMo (R:Rel P Γ N S ρ a w) {k:Nat} {x x':MX} {p:zAJ} (hk:S.h[k]? =some (some (.mo x))) (hp:ρ[k]? =some p) (hO:zQw w p x') (hc: ∀ b,p.foot b→zQ0 w b):
 Rel P Γ N ⟨S.fr,S.h.set k (some (.mo x'))⟩ ρ a w∧zCH S.h ρ w (S.h.set k (some (.mo x'))) ρ w:=
 ⟨⟨R.hr.write hk hp (Upd.refl _ _) hc hO,R.fr.out (zDW.write trivial hk hp (Upd.refl p.foot w))⟩,zCH.write hk hp (Upd.refl _ _)⟩
theorem zCh.relock {p:zAJ} {n:Nat} {ls:List (Option KS)} {vs:Array Value} (hS:zCh w p n ls none vs) {i:Nat} (hi:(ls.getD i none).isSome=true): ∃ g:LK,zCh w p n ls (some (i,g)) vs:=by
 obtain ⟨mb,g1,g2,g3,es,clock,g4,_⟩:=hS.has i _ (zCp hi)
 refine ⟨(mb,es,clock),{ hS with has:=fun j l hl=>?_ }⟩
 by_cases e:j=i
 ·subst e
  have:l=(ls.getD j none).getD []:=by have:=zCp hi;rw [hl] at this;exact Option.some.inj (Option.some.inj this)
  subst this
  exact ⟨mb,g1,g2,g3,es,clock,g4,fun x hx _=>by cases hx;rfl⟩
 ·obtain ⟨b,k1,k2,k3,es1,c1,k4,_⟩:=hS.has j l hl
  exact ⟨b,k1,k2,k3,es1,c1,k4,fun x hx hj=>by cases hx;exact absurd hj.symm e⟩
theorem zCh.unlock {p:zAJ} {n:Nat} {ls:List (Option KS)} {lk:Option (Nat×LK)} {vs:Array Value} (hS:zCh w p n ls lk vs):zCh w p n ls none vs:=
 { hS with has:=fun j l hl=>let ⟨b,k1,k2,k3,es1,c1,k4,_⟩:=hS.has j l hl;⟨b,k1,k2,k3,es1,c1,k4,fun x hx=>by cases hx⟩ }
theorem Tr.lock {c:Code} {j i n:Nat} {ls:List (Option KS)} (hk:S.h[j]? =some (some (.mo (.sets n ls none)))) (hi:(ls.getD i none).isSome=true) (H: ∀ g:LK,Tr P Γ F B L Y c ⟨S.fr,S.h.set j (some (.mo (.sets n ls (some (i,g)))))⟩ Q):Tr P Γ F B L Y c S Q:=fun N ρ a w R y m b=>by
 obtain ⟨p,hp,vs,hS⟩:=R.hr.obj j _ hk
 obtain ⟨g,hS'⟩:=hS.relock hi
 obtain ⟨R',st⟩:=R.setMo hk hp (x':=.sets n ls (some (i,g))) ⟨vs,hS'⟩ fun b hb=>hS.lies hb
 exact H g N ρ a w R' (Y.st y R.hr R'.hr st (zMK.refl _ _)) m b
def isC:List KI→Bool
 | .code _::_=>true
 | _=>false
theorem TrK.lock {K:List KI} {fr:List DV} {h:DH} (j i n:Nat) {ls:List (Option KS)} (hk:h[j]? =some (some (.mo (.sets n ls none)))) (hi:(ls.getD i none).isSome=true) (hK:isC K=true) (h':LK→DH) (he:h'=fun g=>h.set j (some (.mo (.sets n ls (some (i,g)))))) (H: ∀ g:LK,TrG P Γ F B L Y Q K ⟨fr,h' g⟩):TrG P Γ F B L Y Q K ⟨fr,h⟩:=by
 subst he
 unfold isC at hK
 split at hK
 ·exact Tr.lock (S:=⟨fr,h⟩) hk hi H
 ·cases hK
theorem zXa (R:Rel P Γ N S ρ a w) {m j n n' i:Nat} {ls:List (Option KS)} {g:LK} {rem:KS} {cur:Option (List Int)} (hm:S.h[m]? =some (some (.mo (.mit n g.1 g.2.1 g.2.2 rem cur)))) (hj:S.h[j]? =some (some (.mo (.sets n' ls (some (i,g)))))) (hi:(ls.getD i none).isSome=true) {v:Value} (hv:zAU (MS N S.h ρ) w (.it m) ρ v) (ty:TypeId):
 (rem= []∧(Instr.next v false ty).run P w= .ok (.tuple #[.bool false]) w)∨∃ y∈rem,∃ (k u:Value) (w':World) (p:zAJ),(Instr.next v false ty).run P w= .ok (.tuple #[.bool true,k,u]) w'∧ρ[m]? =some p∧Upd p.foot w w'∧zQw w' p (.mit n g.1 g.2.1 g.2.2 (rem.erase y) (some y))∧∀ b,p.foot b→zQ0 w' b:=by
 obtain ⟨p,hp,rfl⟩:=hv
 obtain ⟨p',hp',h0,h1,h2,seen,h3,h4,h5⟩:=R.hr.obj m _ hm
 have:p'=p:=Option.some.inj (hp'.symm.trans hp)
 subst this
 obtain ⟨q,hq,vs,hS⟩:=R.hr.obj j _ hj
 obtain ⟨b,k1,k2,k3,es1,clock1,k4,k5⟩:=hS.has i _ (zCp hi)
 have k5:=k5 _ rfl rfl
 obtain ⟨mb,es,clock⟩:=g
 have e3:mb=b∧es=es1∧clock=clock1:=by
  have:(mb,es,clock)=(b,es1,clock1):=k5
  simpa using this
 obtain ⟨rfl,rfl,rfl⟩:=e3
 simp only at h3 h4 h5
 rw [h1]
 have hold: ∀ x∈es.toList,x.born<clock:=k4.born
 rcases zRK (P:=P) h3 k4.blk hold (Nat.le_refl _) ty with ⟨e1,e2⟩ | ⟨e,he,w1,hw1,e2⟩
 ·refine .inl ⟨?_,e2⟩
  have:(leftOf es seen)= #[]:=Array.eq_empty_of_size_eq_zero e1
  rw [this] at h4
  have:=h4.length_eq
  simp at this
  exact List.eq_nil_of_length_eq_zero this.symm
 ·have hek:e.key∈rem.map zCY:=h4.mem_iff.1 (List.mem_map.2 ⟨e,he,rfl⟩)
  obtain ⟨y,hy,hye⟩:=List.mem_map.1 hek
  have hes:e∈es.toList:=by simp [leftOf] at he ⊢;exact he.1
  have hrlt:p'.blk<w.heap.size:=(Array.getElem?_eq_some_iff.1 h3).1
  have hw1h:w1.heap=w.heap:=by rcases hw1 with rfl | rfl <;> rfl
  have hU:Upd p'.foot w { w1 with heap:=w1.heap.setIfInBounds p'.blk (.mapIter (some mb) clock (seen.push e.born) clock) }:=by
   rw [h2]
   have u1:Upd (fun k=>k=p'.blk) w w1:=by
    rcases hw1 with rfl | rfl
    ·exact Upd.refl _ _
    ·exact Upd.ofExt (Ext.toDrew w)
   exact u1.trans (zIV _)
  have hnew:({ w1 with heap:=w1.heap.setIfInBounds p'.blk (.mapIter (some mb) clock (seen.push e.born) clock) }:World).heap[p'.blk]? =some (.mapIter (some mb) clock (seen.push e.born) clock):=by
   show (w1.heap.setIfInBounds _ _)[_]? =_
   simp [hw1h,hrlt]
  refine .inr ⟨y,hy,e.key,e.val,_,p',e2,hp,hU,⟨fun x hx=>?_,h1,h2,seen.push e.born,hnew,?_,fun x hx=>?_⟩,fun b hb=>?_⟩
  ·rcases hx with hx | hx
   ·exact h0 x (.inl (List.mem_of_mem_erase hx))
   ·have ex:y=x:=Option.some.inj hx
    subst ex
    exact h0 y (.inl hy)
  ·have hl:leftOf es (seen.push e.born)=(leftOf es seen).filter fun x=>x.born != e.born:=by
    unfold leftOf
    rw [Array.filter_filter]
    congr 1
    funext x
    simp only [Array.contains_push,Bool.not_or]
    rw [Bool.and_comm]
    simp [bne,Bool.beq_comm]
   have hnd:((leftOf es seen).toList.map (·.born)).Nodup:=by
    have:((leftOf es seen).toList.map (·.born)).Sublist (es.toList.map (·.born)):=by
     unfold leftOf
     rw [Array.toList_filter]
     exact List.filter_sublist.map _
    exact this.nodup k4.stamps
   have hfil: ∀ (l:List MapEntry),(l.map (·.born)).Nodup→e∈l→(l.map (·.key)).Perm (e.key::((l.filter fun x=>x.born != e.born).map (·.key))):=by
    intro l
    induction l with
    | nil=>intro _ h;cases h
    | cons x l ih=>
     intro hn hx
     rw [List.map_cons,List.nodup_cons] at hn
     by_cases hxe:x=e
     ·subst hxe
      have:(l.filter fun y=>y.born != x.born)=l:=List.filter_eq_self.2 fun y hy=>by
       simp only [bne_iff_ne,ne_eq]
       exact fun hc=>hn.1 (by rw [←hc];exact List.mem_map.2 ⟨y,hy,rfl⟩)
      simp [this]
     ·have hel:e∈l:=(List.mem_cons.1 hx).resolve_left fun h=>hxe h.symm
      have hne:(x.born != e.born)=true:=by
       simp only [bne_iff_ne,ne_eq]
       exact fun hc=>hn.1 (by rw [hc];exact List.mem_map.2 ⟨e,hel,rfl⟩)
      rw [List.filter_cons,if_pos hne,List.map_cons,List.map_cons]
      exact ((ih hn.2 hel).cons x.key).trans (List.Perm.swap e.key x.key _)
   have P1:=hfil _ hnd he
   rw [hl,Array.toList_filter]
   have P2:(rem.map zCY).Perm (zCY y::(rem.erase y).map zCY):=(List.perm_cons_erase hy).map zCY
   have P3:=P1.symm.trans (h4.trans P2)
   rw [←hye] at P3
   exact List.Perm.cons_inv P3
  ·have ex:y=x:=Option.some.inj hx
   subst ex
   exact ⟨e,hes,hye.symm,by simp⟩
  ·rw [h2] at hb
   exact ⟨_,rfl,(),by rw [show b=p'.blk from hb];exact hnew⟩
theorem Tr.next (hF:FOk F P) {id:Nat} {ops:Array Oper} (hnd:zBP ops=true) {o:Oper} {rest:List Oper} (hops:ops.toList=o::rest) {x:Operand} (ho:o.op= .next x false) (hw:zGv ops S o=some true) {m j n n' i:Nat} {ls:List (Option KS)} {g:LK} {rem:KS} {cur:Option (List Int)} (hx:opd S.fr x= .it m) (hm:S.h[m]? =some (some (.mo (.mit n g.1 g.2.1 g.2.2 rem cur)))) (hj:S.h[j]? =some (some (.mo (.sets n' ls (some (i,g)))))) (hmj:m≠j) (hi:(ls.getD i none).isSome=true)
 (h0:rem= []→∃ S' vs o0 o',zOI P Γ ops rest ⟨zVj S.fr o.dst (.tup 1 (L1 [.bool false])),(S.h.set j (some (.mo (.sets n' ls none)))).set m none⟩ o0=some (S',vs,o')∧zDk vs∧Q .normal S' Y)
 (h1: ∀ y∈rem,∃ S' vs o0 o',zOI P Γ ops rest ⟨zVj S.fr o.dst (.tup 3 (L1 [.bool true])),S.h.set m (some (.mo (.mit n g.1 g.2.1 g.2.2 (rem.erase y) (some y))))⟩ o0=some (S',vs,o')∧zDk vs∧Q .normal S' Y):Tr P Γ F B L Y (.region id ops false) S Q:=fun N ρ a w R y mk b=>by
 refine wpIn_region_list ?_
 rw [hops]
 have hd: ∀ c,o.op≠.defer c:=fun c e=>by rw [ho] at e;cases e
 have hl': ∀ o'∈rest,o'∈ops:=fun o' ho'=>by
  have:o'∈ops.toList:=by rw [hops];exact List.mem_cons_of_mem _ ho'
  simpa using this
 have hdef: ∀ v,(a.put o.dst v).defers=a.defers:=fun v=>by cases ho:o.dst <;> simp [Act.put]
 have rx:=zAX R x
 rw [hx] at rx
 unfold wpListIn
 rw [if_pos (zBD R hw)]
 have hex:execOp a.eval o=(do pure (.value (←Instr.next (a.eval x) false o.type))):=by unfold execOp;rw [ho]
 have hlt:m<S.h.length:=(List.getElem?_eq_some_iff.1 hm).1
 rcases zXa R hm hj hi rx o.type with ⟨e1,e2⟩ | ⟨ky,hky,k,u,w',p,e2,hp,hU,hO,hC⟩
 ·obtain ⟨S',vs,o0,o',g1,g2,g3⟩:=h0 e1
  obtain ⟨q,hq,vsj,hS⟩:=R.hr.obj j _ hj
  obtain ⟨R1,st1⟩:=R.setMo hj hq (x':=.sets n' ls none) ⟨vsj,hS.unlock⟩ fun b hb=>hS.lies hb
  have R2:Rel P Γ N ⟨S.fr,(S.h.set j (some (.mo (.sets n' ls none)))).set m none⟩ ρ a w:=⟨R1.hr.kill m,R1.fr.out (zDW.kill m)⟩
  have R3:=zDL R2 o.dst (d:=.tup 1 (L1 [.bool false])) (v:=.tuple #[.bool false]) ⟨#[.bool false],rfl,rfl,fun jj hjj=>by
   have:jj=0:=by omega
   subst this;exact ⟨_,rfl,rfl⟩⟩
  refine zEX hF hd (G:=fun v w2=>v= .tuple #[.bool false]∧w2=w) (zDl.value (s:=Instr.next (a.eval x) false o.type) hex e2 ⟨rfl,rfl⟩) fun v w2 ⟨hv,hw2⟩=>?_
  subst hv hw2
  refine zCF hF hnd rest hl' R3 g1 g2 fun ρ' a' w3 R' st hdf=>?_
  exact Tr.done R y mk b g3 R' ((st1.trans (zCH.kill m)).trans st.st) (fun k p _ hp=>st.pl k p hp) (hdf.trans (hdef _))
 ·obtain ⟨S',vs,o0,o',g1,g2,g3⟩:=h1 ky hky
  have st1:=zCH.write (h:=S.h) (o':=.mo (.mit n g.1 g.2.1 g.2.2 (rem.erase ky) (some ky))) hm hp hU
  have R1:Rel P Γ N ⟨S.fr,S.h.set m (some (.mo (.mit n g.1 g.2.1 g.2.2 (rem.erase ky) (some ky))))⟩ ρ a w':=⟨R.hr.write hm hp hU hC hO,R.fr.out (zDW.write trivial hm hp hU)⟩
  have R3:=zDL R1 o.dst (d:=.tup 3 (L1 [.bool true])) (v:=.tuple #[.bool true,k,u]) ⟨#[.bool true,k,u],rfl,rfl,fun jj hjj=>by
   match jj,hjj with
   | 0,_=>exact ⟨_,rfl,rfl⟩
   | 1,_=>exact ⟨_,rfl,trivial⟩
   | 2,_=>exact ⟨_,rfl,trivial⟩⟩
  refine zEX hF hd (G:=fun v w2=>v= .tuple #[.bool true,k,u]∧w2=w') (zDl.value (s:=Instr.next (a.eval x) false o.type) hex e2 ⟨rfl,rfl⟩) fun v w2 ⟨hv,hw2⟩=>?_
  subst hv hw2
  refine zCF hF hnd rest hl' R3 g1 g2 fun ρ' a' w3 R' st hdf=>?_
  exact Tr.done R y mk b g3 R' (st1.trans st.st) (fun k p _ hp=>st.pl k p hp) (hdf.trans (hdef _))
def nxX (ops:Array Oper):Operand:=match ops.toList with
 | o::_=>match o.op with
  | .next x _=>x
  | _=>.tmp 0
 | []=>.tmp 0
def nxD (ops:Array Oper):Option Tmp:=match ops.toList with
 | o::_=>o.dst
 | []=>none
def nxR (ops:Array Oper):List Oper:=ops.toList.tail
def zdy (ops:Array Oper):Bool:=match ops.toList with
 | o::_=>match o.op with
  | .next _ false=>o.guard.isNone&&zBP ops
  | _=>false
 | []=>false
theorem zXS {ops:Array Oper} (h:zdy ops=true):zBP ops=true∧∃ o,ops.toList=o::nxR ops∧o.op= .next (nxX ops) false∧o.guard=none∧o.dst=nxD ops:=by
 unfold zdy at h
 unfold nxX nxD nxR
 split at h
 ·rename_i o rest hops
  rw [hops]
  split at h
  ·rename_i x ho
   simp only [Bool.and_eq_true,Option.isNone_iff_eq_none] at h
   refine ⟨h.2,o,rfl,?_,h.1,rfl⟩
   simp only [ho]
  ·cases h
 ·cases h
def zdV (live σ:List Nat) (L:Nat) (r:St×List Prop×Orc):List DV×DH×List Prop×Bool:=((comp live σ r.1).fr,(comp live σ r.1).h,r.2.1,zZF σ L r.1.h.length)
theorem TrG.nx (hX:HX F P) {K:List KI} {ops:Array Oper} {fr:List DV} {h:DH} (hK:zKq K=some (ops,zD4 K)) (hok:zdy ops=true) (m j i n:Nat) (ls:List (Option KS)) (g:LK) (rem:KS) (cur:Option (List Int)) (live σ:List Nat) (fr0:List DV) (h0:DH) (σ1:List Nat) (fr1:List Int→List DV) (h1:List Int→DH)
 (hx:opd fr (nxX ops)= .it m) (hm:h[m]? =some (some (.mo (.mit n g.1 g.2.1 g.2.2 rem cur)))) (hj:h[j]? =some (some (.mo (.sets n ls (some (i,g)))))) (hmj:m≠j) (hi:(ls.getD i none).isSome=true) (hc:zFz (zD4 K)=true)
 (c0:(zOI P Γ ops (nxR ops) ⟨zVj fr (nxD ops) (.tup 1 (L1 [.bool false])),(h.set j (some (.mo (.sets n ls none)))).set m none⟩ ⟨[],[],[],[]⟩).map (zdV live σ L)=some (fr0,h0,[],true))
 (c1: ∀ y,(zOI P Γ ops (nxR ops) ⟨zVj fr (nxD ops) (.tup 3 (L1 [.bool true])),h.set m (some (.mo (.mit n g.1 g.2.1 g.2.2 (rem.erase y) (some y))))⟩ ⟨[],[],[],[]⟩).map (zdV live σ1 L)=some (fr1 y,h1 y,[],true))
 (k0:rem= []→TrG P Γ F B L Y Q (zD4 K) ⟨fr0,h0⟩) (k1: ∀ y∈rem,TrG P Γ F B L Y Q (zD4 K) ⟨fr1 y,h1 y⟩):TrG P Γ F B L Y Q K ⟨fr,h⟩:=by
 have go: ∀ {S:St} {live σ:List Nat} {fr':List DV} {h':DH},(zOI P Γ ops (nxR ops) S ⟨[],[],[],[]⟩).map (zdV live σ L)=some (fr',h',[],true)→TrG P Γ F B L Y Q (zD4 K) ⟨fr',h'⟩→∃ S' vs o0 o',zOI P Γ ops (nxR ops) S o0=some (S',vs,o')∧zDk vs∧TrG P Γ F B L Y Q (zD4 K) S':=by
  intro S live σ fr' h' hc0 hk
  cases hr:zOI P Γ ops (nxR ops) S ⟨[],[],[],[]⟩ with
  | none=>rw [hr] at hc0;cases hc0
  | some r=>
   obtain ⟨S1,v1,o1⟩:=r
   rw [hr] at hc0
   simp only [Option.map_some,zdV,Option.some.injEq,Prod.mk.injEq] at hc0
   obtain ⟨rfl,rfl,rfl,hs⟩:=hc0
   exact ⟨S1,_,_,_,hr,trivial,TrK.le (SLe.comp live σ S1 hs) hc hk⟩
 unfold zKq at hK
 split at hK
 ·rename_i id ops' k'
  have e:=Option.some.inj hK
  simp only [zD4,Prod.mk.injEq,and_true] at e
  subst e
  obtain ⟨hnd,o,q1,q2,q3,q4⟩:=zXS hok
  exact Tr.next (S:=⟨fr,h⟩) hX.f hnd q1 q2 (by unfold zGv;rw [q3]) hx hm hj hmj hi (fun e=>by rw [q4];exact go c0 (k0 e)) (fun y hy=>by rw [q4];exact go (c1 y) (k1 y hy))
 ·cases hK
end
end Go.Proofs.YtekkngkphejfcaaGreatDoor
namespace Go.Proofs.YtekkngkphejfcaaGreatDoor
open Go.RowKit
def PEv {R:Type} (f:Nat→Option R) (Q:R→Prop):Prop:=∃ N,∀ n,N≤n→∃ r,f n=some r∧Q r
def Ev {R:Type} (f:Nat→Option R) (r:R):Prop:=∃ N,∀ n,N≤n→f n=some r
section
variable {R T:Type} {f g:Nat→Option R} {Q Q':R→Prop} {r:R}
theorem Ev.p (h:Ev f r) (hq:Q r):PEv f Q:=let ⟨N,h⟩:=h;⟨N,fun n hn=>⟨r,h n hn,hq⟩⟩
theorem PEv.ev (h:PEv f Q) (hu: ∀ r r',Q r→Q r'→r=r'): ∃ r,Q r∧Ev f r:=by
 obtain ⟨N,h⟩:=h
 obtain ⟨r,h1,h2⟩:=h N (Nat.le_refl _)
 refine ⟨r,h2,N,fun n hn=>?_⟩
 obtain ⟨r',h3,h4⟩:=h n hn
 rw [h3,hu _ _ h4 h2]
theorem PEv.mono (h:PEv f Q) (hq: ∀ r,Q r→Q' r):PEv f Q':=let ⟨N,h⟩:=h;⟨N,fun n hn=>let ⟨r,h1,h2⟩:=h n hn;⟨r,h1,hq r h2⟩⟩
theorem PEv.step (k:Nat) (h: ∀ n,f (n+k)=g n) (hg:PEv g Q):PEv f Q:=by
 obtain ⟨N,hg⟩:=hg
 refine ⟨N+k,fun n hn=>?_⟩
 have:=hg (n-k) (by omega)
 rw [←h,show n-k+k=n by omega] at this
 exact this
theorem Ev.step (k:Nat) (h: ∀ n,f (n+k)=g n) (hg:Ev g r):Ev f r:=by
 obtain ⟨N,hg⟩:=hg
 refine ⟨N+k,fun n hn=>?_⟩
 have:=hg (n-k) (by omega)
 rwa [←h,show n-k+k=n by omega] at this
theorem Ev.now (h: ∀ n,f n=some r):Ev f r:=⟨0,fun n _=>h n⟩
theorem Ev.eq {f g:Nat→Option R} (h:Ev g r) (e: ∀ n,f n=g n):Ev f r:=let ⟨N,h⟩:=h;⟨N,fun n hn=>(e n).trans (h n hn)⟩
theorem PEv.eq {f g:Nat→Option R} (h:PEv g Q) (e: ∀ n,f n=g n):PEv f Q:=let ⟨N,h⟩:=h;⟨N,fun n hn=>by rw [e];exact h n hn⟩
theorem Ev.bind {a:Nat→Option T} {x:T} {b:Nat→T→Option R} (ha:Ev a x) (hb:Ev (fun n=>b n x) r):Ev (fun n=>(a n).bind (b n)) r:=by
 obtain ⟨N,ha⟩:=ha
 obtain ⟨M,hb⟩:=hb
 refine ⟨max N M,fun n hn=>?_⟩
 show (a n).bind (b n)=_
 rw [ha n (by omega),Option.bind_some]
 exact hb n (by omega)
theorem PEv.bind {a:Nat→Option T} {x:T} {b:Nat→T→Option R} (ha:Ev a x) (hb:PEv (fun n=>b n x) Q):PEv (fun n=>(a n).bind (b n)) Q:=by
 obtain ⟨N,ha⟩:=ha
 obtain ⟨M,hb⟩:=hb
 refine ⟨max N M,fun n hn=>?_⟩
 show ∃ r,(a n).bind (b n)=some r∧_
 rw [ha n (by omega),Option.bind_some]
 exact hb n (by omega)
theorem PEv.all {l:List T} {F:T→Nat→Option R} (h: ∀ y∈l,PEv (F y) Q): ∃ N,∀ n,N≤n→∀ y∈l,∃ r,F y n=some r∧Q r:=by
 induction l with
 | nil=>exact ⟨0,fun n _ y hy=>absurd hy List.not_mem_nil⟩
 | cons x l ih=>
  obtain ⟨N,hN⟩:=ih fun y hy=>h y (List.mem_cons_of_mem _ hy)
  obtain ⟨M,hM⟩:=h x List.mem_cons_self
  refine ⟨max N M,fun n hn y hy=>?_⟩
  rcases List.mem_cons.1 hy with rfl | hy
  ·exact hM n (by omega)
  ·exact hN n (by omega) y hy
theorem PEv.range {F:Nat→Nat→Option R} {A:Nat→R→Prop}: ∀ (k:Nat),(∀ i,i<k→PEv (F i) (A i))→∃ N,∀ n,N≤n→∀ i,i<k→∃ r,F i n=some r∧A i r
 | 0,_=>⟨0,fun n _ i hi=>absurd hi (Nat.not_lt_zero i)⟩
 | k+1,h=>by
  obtain ⟨N,hN⟩:=PEv.range k fun i hi=>h i (by omega)
  obtain ⟨M,hM⟩:=h k (by omega)
  refine ⟨max N M,fun n hn i hi=>?_⟩
  rcases Nat.lt_succ_iff_lt_or_eq.1 hi with hi | rfl
  ·exact hN n (by omega) i hi
  ·exact hM n (by omega)
theorem PEv.next [DecidableEq R] {rem:KS} {a:Nat→Option R} {F:Nat→List Int→Option R} (hn:rem≠[]) (h: ∀ y∈rem,PEv (fun n=>F n y) Q) (hu: ∀ r r',Q r→Q r'→r=r'):PEv (fun n=>zFP rem (a n) (F n)) Q:=by
 obtain ⟨N,hN⟩:=PEv.all h
 refine ⟨N,fun n hn'=>?_⟩
 obtain ⟨y0,hy0⟩:=List.exists_mem_of_ne_nil rem hn
 obtain ⟨r,h1,h2⟩:=hN n hn' y0 hy0
 refine ⟨r,zXR hn fun y hy=>?_,h2⟩
 obtain ⟨r',h3,h4⟩:=hN n hn' y hy
 rw [hu _ _ h2 h4];exact h3
end
end Go.Proofs.YtekkngkphejfcaaGreatDoor
namespace Go.Proofs.YtekkngkphejfcaaGreatDoor
open Go.RowKit
def zA3 {T R:Type} (m:Nat→T→Option R) (a b:T):Prop:=∃ N S,∀ n,N≤n→m (n+S) a=m n b
section
variable {T R:Type} {m:Nat→T→Option R} {a b c:T} {r:R} {Q:R→Prop}
theorem zA3.refl:zA3 m a a:=⟨0,0,fun _ _=>rfl⟩
theorem zA3.one (h: ∀ n,m (n+1) a=m n b):zA3 m a b:=⟨0,1,fun n _=>h n⟩
theorem zA3.oneN (N:Nat) (h: ∀ n,N≤n→m (n+1) a=m n b):zA3 m a b:=⟨N,1,h⟩
theorem zA3.trans (h:zA3 m a b) (h2:zA3 m b c):zA3 m a c:=by
 obtain ⟨N,S,h⟩:=h
 obtain ⟨N2,S2,h2⟩:=h2
 exact ⟨max N N2,S2+S,fun n hn=>by rw [←Nat.add_assoc,h _ (by omega),h2 _ (by omega)]⟩
theorem zA3.ev (h:zA3 m a b) (h2:Ev (fun n=>m n b) r):Ev (fun n=>m n a) r:=by
 obtain ⟨N,S,h⟩:=h
 obtain ⟨M,h2⟩:=h2
 refine ⟨max N M+S,fun n hn=>?_⟩
 have:=h (n-S) (by omega)
 rw [show n-S+S=n by omega] at this
 exact this.trans (h2 (n-S) (by omega))
theorem zA3.pev (h:zA3 m a b) (h2:PEv (fun n=>m n b) Q):PEv (fun n=>m n a) Q:=by
 obtain ⟨N,S,h⟩:=h
 obtain ⟨M,h2⟩:=h2
 refine ⟨max N M+S,fun n hn=>?_⟩
 have:=h (n-S) (by omega)
 rw [show n-S+S=n by omega] at this
 obtain ⟨r,h3,h4⟩:=h2 (n-S) (by omega)
 exact ⟨r,this.trans h3,h4⟩
theorem Ev.one (h: ∀ n,m (n+1) a=some r):Ev (fun n=>m n a) r:=⟨1,fun n hn=>by
 obtain ⟨k,rfl⟩: ∃ k,n=k+1:=⟨n-1,by omega⟩
 exact h k⟩
theorem Ev.oneN (N:Nat) (h: ∀ n,N≤n→m (n+1) a=some r):Ev (fun n=>m n a) r:=⟨N+1,fun n hn=>by
 obtain ⟨k,rfl⟩: ∃ k,n=k+1:=⟨n-1,by omega⟩
 exact h k (by omega)⟩
theorem zD7 {S:Type} (st:Nat→S→T) (I:Nat→S→Prop) (len:Nat) (h: ∀ i s,i<len→I i s→∃ s',I (i+1) s'∧zA3 m (st i s) (st (i+1) s')): ∀ (k i:Nat) (s:S),i+k=len→I i s→∃ s',I len s'∧zA3 m (st i s) (st len s')
 | 0,i,s,e,hI=>by
  have:i=len:=by omega
  subst this
  exact ⟨s,hI,zA3.refl⟩
 | k+1,i,s,e,hI=>by
  obtain ⟨s',h1,h2⟩:=h i s (by omega) hI
  obtain ⟨s2,h3,h4⟩:=zD7 st I len h k (i+1) s' (by omega) h1
  exact ⟨s2,h3,h2.trans h4⟩
end
end Go.Proofs.YtekkngkphejfcaaGreatDoor
namespace Go.Proofs.YtekkngkphejfcaaGreatDoor
open Go.RowKit
class HC (F:Fence):Prop where
 x:HX F Tryz.prog
 w:F=Fence.wide∨∃ l,F=Fence.wide.inRound l
instance:HC Fence.wide:=⟨⟨FOk.wide,by kernel_rfl⟩,.inl rfl⟩
instance (l:Nat):HC (Fence.wide.inRound l):=⟨⟨FOk.round l,by kernel_rfl⟩,.inr ⟨l,rfl⟩⟩
abbrev DV.i (x:Int):DV:=.int .i64 x
def zAH:Sch:=fun _=>.no
def zJs:Nat→List DV→List Nat
 | _,[]=>[]
 | i,.any::r=>zJs (i+1) r
 | i,_::r=>i::zJs (i+1) r
section
variable {F:Fence} {B:Option Nat} {L:Nat} {Y N:zDD Tryz.prog GG L} {Q:QY Tryz.prog GG L} {k k':List KI} {S:St} {fr:List DV} {h' h2:DH} {c:List (DV×DH×Bool)} {o:List (Nat×DV)} {z:List (Nat×Fz)} {v w:List Prop}
theorem gz [hX:HC F] (sch:Sch) (σ:List Nat) (hl:HS c o z v) (ks:List Nat) (hz:HS [] [] [] w) (k':List KI) (fr:List DV) (h':DH) (hk:TrG Tryz.prog GG F B L Y Q k' ⟨fr,h'⟩) (tg:List (List (Nat×Nat)×St):=[])
 (h:(zET Tryz.prog GG sch 400 k S ⟨c,o,z,tg⟩).bind (zbB (zJs 0 fr) σ L ks)=some (.at k',fr,h',v,w,[],[],true):=by kernel_rfl) (hc:zFz k'=true:=by kernel_rfl):TrG Tryz.prog GG F B L Y Q k S:=
 TrK.gS hX.x sch 400 (zJs 0 fr) σ tg hl ks hz k' fr h' h hc hk
theorem gs [hX:HC F] (sch:Sch) (σ:List Nat) (hl:HS c o z v) (k':List KI) (fr:List DV) (h':DH) (hk:TrG Tryz.prog GG F B L Y Q k' ⟨fr,h'⟩) (tg:List (List (Nat×Nat)×St):=[])
 (h:(zET Tryz.prog GG sch 400 k S ⟨c,o,z,tg⟩).bind (zbB (zJs 0 fr) σ L [])=some (.at k',fr,h',v,[],[],[],true):=by kernel_rfl) (hc:zFz k'=true:=by kernel_rfl):TrG Tryz.prog GG F B L Y Q k S:=
 TrK.gS hX.x sch 400 (zJs 0 fr) σ tg hl [] H0 k' fr h' h hc hk
theorem gg [hX:HC F] (sch:Sch) (σ:List Nat) (hl:HS c o z v) (hk:TrG Tryz.prog GG F B L Y Q k' ⟨fr,h'⟩) (tg:List (List (Nat×Nat)×St):=[])
 (h:(zET Tryz.prog GG sch 400 k S ⟨c,o,z,tg⟩).bind (zbB (zJs 0 fr) σ L [])=some (.at k',fr,h',v,[],[],[],true):=by kernel_rfl) (hc:zFz k'=true:=by kernel_rfl):TrG Tryz.prog GG F B L Y Q k S:=
 TrK.gS hX.x sch 400 (zJs 0 fr) σ tg hl [] H0 k' fr h' h hc hk
theorem el [hX:HC F] {fn:Func} {d:DV} (sch:Sch) (live σ:List Nat) (hl:HS c o z v) (ks:List Nat) (hz:HS [] [] [] w) (rs:List DV) (le:DLe (zY3 rs) d) (tg:List (List (Nat×Nat)×St):=[])
 (h:(zET Tryz.prog GG sch 400 k S ⟨c,o,z,tg⟩).bind (zY4 Tryz.prog live σ L ks fn d h2.length)=some (true,rs,h2,v,w,[],[],true):=by kernel_rfl):TrK Tryz.prog GG F B L N (Fin Tryz.prog fn L d h2) k S:=
 TrK.el hX.x sch 400 live σ tg hl ks hz rs le h
theorem ez [hX:HC F] {fn:Func} {d:DV} (sch:Sch) (live σ:List Nat) (hl:HS c o z v) (ks:List Nat) (hz:HS [] [] [] w) (tg:List (List (Nat×Nat)×St):=[])
 (h:(zET Tryz.prog GG sch 400 k S ⟨c,o,z,tg⟩).bind (fun r=>(zY4 Tryz.prog live σ L ks fn d h2.length r).map fun q=>(q.1,zY3 q.2.1,q.2.2))=some (true,d,h2,v,w,[],[],true):=by kernel_rfl):TrK Tryz.prog GG F B L N (Fin Tryz.prog fn L d h2) k S:=
 TrK.e hX.x sch 400 live σ tg hl ks hz h
theorem ee [hX:HC F] {fn:Func} {d:DV} (sch:Sch) (live σ:List Nat) (hl:HS c o z v) (tg:List (List (Nat×Nat)×St):=[])
 (h:(zET Tryz.prog GG sch 400 k S ⟨c,o,z,tg⟩).bind (fun r=>(zY4 Tryz.prog live σ L [] fn d h2.length r).map fun q=>(q.1,zY3 q.2.1,q.2.2))=some (true,d,h2,v,[],[],[],true):=by kernel_rfl):TrK Tryz.prog GG F B L N (Fin Tryz.prog fn L d h2) k S:=
 TrK.e hX.x sch 400 live σ tg hl [] H0 h
theorem rr [hX:HC F] {ex:List Exit} {i:Nat} {e:Exit} (sch:Sch) (σ:List Nat) (he:(Exit.normal::ex)[i]? =some e) (hl:HS c o z v) (tg:List (List (Nat×Nat)×St):=[])
 (h:(zET Tryz.prog GG sch 400 k S ⟨c,o,z,tg⟩).map (zdx σ L)=some (some e,h2,v,[],[],[],true):=by kernel_rfl):TrK Tryz.prog GG F B L N (zI9 L ex i h2) k S:=
 TrK.r hX.x sch 400 σ tg hl he h
theorem ag [hX:HC F] {Q:Exit→St→Prop} {assign body:Code} (sch:Sch) (σ:List Nat) (hl:HS c o z v) (fr:List DV) (h':DH) (hk: ∀ N2:zDD Tryz.prog GG L,TrK Tryz.prog GG F B L N2 Q [.code body] ⟨fr,h'⟩)
 (h:(zET Tryz.prog GG sch 400 [.code assign] S ⟨c,o,z,[]⟩).map (zcr (zJs 0 fr) σ L)=some (.at [],fr,h',v,[],[],true):=by kernel_rfl):TrA Tryz.prog GG F B L N Q assign body S:=
 TrA.g hX.x sch 400 (zJs 0 fr) σ hl fr h' h hk
theorem rd {n m:Nat} (hm:n+1≤m) (h: ∀ m,n≤m→TrG Tryz.prog GG F B L Y Q (unN m k) S) (hk:zLU k=true:=by kernel_rfl):TrG Tryz.prog GG F B L Y Q (toN m k) S:=TrK.round hm hk h
theorem en (m:Nat) (h:TrG Tryz.prog GG F B L Y Q (toN m k) S) (hk:zLU k=true:=by kernel_rfl):TrG Tryz.prog GG F B L Y Q k S:=TrK.enter m hk h
end
theorem em {f:Nat} {ds:List DV} {h:DH} {d:DV} {h':DH} {ext:Bool} (hES:ES Tryz.prog GG f ds h d h' ext) (σ:List Nat) (H:DH) (hb:zdD σ H.length h.length h'.length=true:=by kernel_rfl) (hh:(σ.map fun k=>H.getD k none)=h.map (upO σ H.length):=by kernel_rfl):ES Tryz.prog GG f (ds.map (up σ H.length)) H (up σ H.length d) (zQz H σ h') ext:=ES.emC hES σ H hb hh
theorem fb {f:Nat} {ds:List DV} {d:DV} (h0:ES Tryz.prog GG f ds [] d [] true) (h:DH) (hds:ds.all zIr=true:=by kernel_rfl):ES Tryz.prog GG f ds h d h true:=ES.frameB h0 h hds
theorem sb {f:Nat} (ds:List DV) {ds0:List DV} {d:DV} (h0:ES Tryz.prog GG f ds0 [] d [] true) (h:DH) (hs:zGI h ds ds0) (hd:zZH d=true:=by kernel_rfl):ES Tryz.prog GG f ds h d h true:=ES.snapB h0 h hs hd
theorem ot {f:Nat} {fn:Func} {ds:List DV} {h:DH} {d:DV} {h':DH} {ext:Bool} (hf:Tryz.prog.funcs[f]? =some fn) (H: ∀ (B:Nat) (N:zDD Tryz.prog GG h.length),TrK Tryz.prog GG Fence.wide (some B) h.length N (Fin Tryz.prog fn h.length d h') (start fn) ⟨ds++List.replicate (fn.ntmps-ds.length) .any,h⟩)
 (hb:fn.body.isSome=true:=by kernel_rfl) (hname:(fn.name== "runtime.NumGoroutine")=false:=by kernel_rfl) (hni:h'.all zRc=true:=by kernel_rfl) (hext:(!ext||h.isEmpty)=true:=by kernel_rfl):ES Tryz.prog GG f ds h d h' ext:=
 ES.of_trk hf hb hname (zXZ hni) (fun e=>by subst e;simpa using hext) H
section
variable {F:Fence} {B L:Nat} {Y:zDD Tryz.prog GG L} {Q:QY Tryz.prog GG L} {fr:List DV} {h:DH} {K:List KI} {a b:Code} {α σ:Type} {l:List α} {H:σ→DH} {FR:α→List DV}
theorem rx [hX:HC F] (ex:List Exit) (kk t:Nat) (ps:Array Tmp) (enc:α→Array Value) (L':Nat) {f:α→σ→Option (σ×Nat)} {s0:σ} {rE:σ×Nat} (hf:zEV f l s0=some rE)
 (hround: ∀ (l B:Nat) (N:zDD Tryz.prog GG L') (x:α) (s:σ) (r:σ×Nat),f x s=some r→TrA Tryz.prog GG (Fence.wide.inRound l) (some B) L' N (zI9 L' ex r.2 (H r.1)) a b ⟨FR x,H s⟩)
 (hdone: ∀ e,(Exit.normal::ex)[rE.2]? =some e→TrE Tryz.prog GG F (some B) L Q (zD4 K) e ⟨fr,H rE.1⟩ Y) (hex:(ex.all fun e=>(exC e).isSome)=true:=by kernel_rfl)
 (hK:zG0 K=some (.tmp t,ps,a,b,zD4 K):=by kernel_rfl) (hg:opd fr (.tmp t)= .it kk:=by kernel_rfl) (hk:h[kk]? =some (some (.iter (l.map enc))):=by kernel_rfl) (hps: ∀ x,(enc x).size=ps.size:=by exact fun _=>rfl) (hL:Nat.ble L L'=true:=by kernel_rfl) (hfb:fr.all (zSf L')=true:=by kernel_rfl) (h0:h.set kk none=H s0:=by kernel_rfl) (hfr:(fun x=>zNO fr ps.toList (enc x).toList)=FR:=by kernel_rfl):TrG Tryz.prog GG F (some B) L Y Q K ⟨fr,h⟩:=
 TrK.rg hX.w ex hex kk t ps enc L' hf hround hK hg hk hps hL hfb h0 hfr hdone
theorem r0 [hX:HC F] (kk t:Nat) (ps:Array Tmp) (enc:α→Array Value) (L':Nat) {f:α→σ→Option σ} {s0 sE:σ} (hf:zBA f l s0=some sE)
 (hround: ∀ (l B:Nat) (N:zDD Tryz.prog GG L') (x:α) (s r:σ),f x s=some r→TrA Tryz.prog GG (Fence.wide.inRound l) (some B) L' N (zI9 L' [] 0 (H r)) a b ⟨FR x,H s⟩)
 (hdone:TrG Tryz.prog GG F (some B) L Y Q (zD4 K) ⟨fr,H sE⟩)
 (hK:zG0 K=some (.tmp t,ps,a,b,zD4 K):=by kernel_rfl) (hg:opd fr (.tmp t)= .it kk:=by kernel_rfl) (hk:h[kk]? =some (some (.iter (l.map enc))):=by kernel_rfl) (hps: ∀ x,(enc x).size=ps.size:=by exact fun _=>rfl) (hL:Nat.ble L L'=true:=by kernel_rfl) (hfb:fr.all (zSf L')=true:=by kernel_rfl) (h0:h.set kk none=H s0:=by kernel_rfl) (hfr:(fun x=>zNO fr ps.toList (enc x).toList)=FR:=by kernel_rfl):TrG Tryz.prog GG F (some B) L Y Q K ⟨fr,h⟩:=
 TrK.rg0 hX.w kk t ps enc L' hf hround hK hg hk hps hL hfb h0 hfr hdone
end
abbrev Yd (L:Nat):=zDD Tryz.prog GG L
abbrev EQ:=ES Tryz.prog GG
abbrev FQ:=Fin Tryz.prog
abbrev TW (B:Nat) {L:Nat} (N:Yd L) (Q:Exit→St→Prop) (k:List KI) (S:St):Prop:=TrK Tryz.prog GG Fence.wide (some B) L N Q k S
abbrev TA (l B:Nat) {L:Nat} (N:Yd L) (Q:Exit→St→Prop) (fn:Func) (t:Nat) (S:St):Prop:=TrA Tryz.prog GG (Fence.wide.inRound l) (some B) L N Q (rgA fn t) (rgB fn t) S
abbrev Al {X R:Type} (m:Nat→X→Option R) (T:Nat→R→X→Prop):Prop:=∀ n x r,m n x=some r→T n r x
theorem ia {X R:Type} {m:Nat→X→Option R} {T:Nat→R→X→Prop} (h0: ∀ x,m 0 x=none) (h: ∀ n,(∀ x r,m n x=some r→T n r x)→∀ x r,m (n+1) x=some r→T (n+1) r x):Al m T
 | 0,x,_,e=>by rw [h0 x] at e;cases e
 | n+1,x,r,e=>h n (ia h0 h n) x r e
/-A proof in the shape of what was read off:what holds of each way on,the hints gathered so far. -/
def Gt {R:Type} (T:R→Prop) (c:List (DV×DH×Bool)) (o:List (Nat×DV)) (z:List (Nat×Fz)) (v:List Prop) (A:Option R):Prop:=HS c o z v→∀ r,A=some r→T r
section
variable {R R':Type} {T:R→Prop} {c:List (DV×DH×Bool)} {o:List (Nat×DV)} {z:List (Nat×Fz)} {v:List Prop} {A A':Option R} {r0:R} {b b':Bool} {p q:Prop} {f:Nat} {ds:List DV} {h h':DH} {d d':DV} {e:Bool} {xi:Int}
theorem gO {F:Fence} {B:Option Nat} {L:Nat} {Y:Yd L} {Q:R→QY Tryz.prog GG L} {k:List KI} {S:St} (t:Gt (fun r=>TrG Tryz.prog GG F B L Y (Q r) k S) [] [] [] [] A): ∀ r,A=some r→TrG Tryz.prog GG F B L Y (Q r) k S:=t H0
theorem rO (t:Gt T [] [] [] [] A):Gt T c o z v A:=fun _=>t H0
theorem nO:Gt T c o z v none:=fun _ _ h=>by cases h
theorem lF (x:HS c o z v→T r0):Gt T c o z v (some r0):=fun p _ h=>Option.some.inj h▸x p
theorem bn (x:b=true→Gt T c o z v A) (y:b=false→Gt T c o z v A'):Gt T c o z v (bif b then A else A'):=fun p r h=>(zFI h).elim (fun h=>x h.1 p r h.2) (fun h=>y h.1 p r h.2)
theorem bj (t:Nat) (x:b=true→Gt T c (o++[(t,.bool true)]) z (v++[DLe (.bool b) (.bool true)]) A) (y:b=false→Gt T c (o++[(t,.bool false)]) z (v++[DLe (.bool b) (.bool false)]) A'):Gt T c o z v (bif b then A else A'):=bn (fun h p=>x h (p.b t h)) (fun h p=>y h (p.b t h))
theorem bi (t:Nat) (x:Gt T c (o++[(t,.bool true)]) z (v++[DLe (.bool b) (.bool true)]) A) (y:Gt T c (o++[(t,.bool false)]) z (v++[DLe (.bool b) (.bool false)]) A'):Gt T c o z v (bif b then A else A'):=bj t (fun _=>x) (fun _=>y)
theorem gn {_:Decidable p} (x:p→Gt T c o z v A):Gt T c o z v (if p then A else none):=fun w r h=>x (zAv h).1 w r (zAv h).2
theorem gi {_:Decidable p} (x:Gt T c o z (v++[p]) A):Gt T c o z v (if p then A else none):=gn fun g w=>x (w.g g)
theorem gc {_:Decidable p} {_:Decidable q} (x:Gt T c o z v (if p then (if q then A else none) else none)):Gt T c o z v (if p∧q then A else none):=fun w r h=>x w r (by obtain ⟨⟨hp,hq⟩,h⟩:=zAv h;rw [if_pos hp,if_pos hq];exact h)
theorem gw {_:Decidable (R64 xi)} (t:Nat) (x:Gt T c (o++[(t,.int .i64 xi)]) z (v++[DLe (.int .i64 (IntKind.i64.wrap xi)) (.int .i64 xi)]) A):Gt T c o z v (if R64 xi then A else none):=gn fun g w=>x (w.w t g)
theorem cn {F:Option R'} {A:R'→Option R} (x: ∀ y,F=some y→Gt T c o z v (A y)):Gt T c o z v (F.bind A):=fun w r h=>let ⟨y,hy,h⟩:=zTb h;x y hy w r h
theorem cf {F:Option R'} {A:R'→Option R} {d:R'→DV} (k: ∀ {y},F=some y→ES Tryz.prog GG f ds [] (d y) [] true) (h:DH) (x: ∀ y,Gt T (c++[(d y,h,true)]) o z (v++[ES Tryz.prog GG f ds h (d y) h true]) (A y)) (hds:ds.all zIr=true:=by kernel_rfl):Gt T c o z v (F.bind A):=cn fun y hy w=>x y (w.c (fb (k hy) h hds))
theorem ce {F:Option R'} {A:R'→Option R} {d:R'→DV} {h':R'→DH} (k: ∀ {y},F=some y→ES Tryz.prog GG f ds h (d y) (h' y) e) (σ:List Nat) (H:DH) (x: ∀ y,Gt T (c++[(up σ H.length (d y),zQz H σ (h' y),e)]) o z (v++[ES Tryz.prog GG f (ds.map (up σ H.length)) H (up σ H.length (d y)) (zQz H σ (h' y)) e]) (A y)) (hb: ∀ y,zdD σ H.length h.length (h' y).length=true:=by intro;kernel_rfl) (hh:(σ.map fun k=>H.getD k none)=h.map (upO σ H.length):=by kernel_rfl):Gt T c o z v (F.bind A):=cn fun y hy w=>x y (w.c (em (k hy) σ H (hb y) hh))
theorem jb (t:Nat) (g:b=b') (x:Gt T c (o++[(t,.bool b')]) z (v++[DLe (.bool b) (.bool b')]) A):Gt T c o z v A:=fun w=>x (w.b t g)
theorem jw (t:Nat) (g:R64 xi) (x:Gt T c (o++[(t,.int .i64 xi)]) z (v++[DLe (.int .i64 (IntKind.i64.wrap xi)) (.int .i64 xi)]) A):Gt T c o z v A:=fun w=>x (w.w t g)
theorem jg (g:p) (x:Gt T c o z (v++[p]) A):Gt T c o z v A:=fun w=>x (w.g g)
theorem jt (x:Gt T c o z (v++[True]) A):Gt T c o z v A:=fun w=>x w.t
theorem jo (t:Nat) (g:DLe d d') (x:Gt T c (o++[(t,d')]) z (v++[DLe d d']) A):Gt T c o z v A:=fun w=>x (w.o t g)
theorem jc (g:ES Tryz.prog GG f ds h d h' e) (x:Gt T (c++[(d,h',e)]) o z (v++[ES Tryz.prog GG f ds h d h' e]) A):Gt T c o z v A:=fun w=>x (w.c g)
theorem ja (t k m:Nat) {n n':Nat} {f f':Nat→Nat→DV} (g:n=n'∧∀ i j,i<n→j<m→DLe (f i j) (f' i j)) (x:Gt T c o (z++[(t,.arr k n' f')]) (v++[n=n'∧∀ i j,i<n→j<m→DLe (f i j) (f' i j)]) A):Gt T c o z v A:=fun w=>x (w.a t k m g)
theorem jz (t k:Nat) (x:Gt T c o (z++[(t,.frz k)]) v A):Gt T c o z v A:=fun w=>x (w.z t k)
end
section
variable {R:Type} {c:List (DV×DH×Bool)} {o:List (Nat×DV)} {z:List (Nat×Fz)} {v:List Prop} {A:Option R} {r0:R} {F:Fence} {B:Option Nat} {L:Nat} {Y N:zDD Tryz.prog GG L} {k k':List KI} {S:St} {fr:List DV} {h':DH}
theorem lG [hX:HC F] (sch:Sch) (σ:List Nat) {Q:R→QY Tryz.prog GG L} (hk: ∀ {r},A=some r→TrG Tryz.prog GG F B L Y (Q r) k' ⟨fr,h'⟩) (tg:List (List (Nat×Nat)×St):=[])
 (h:(zET Tryz.prog GG sch 400 k S ⟨c,o,z,tg⟩).bind (zbB (zJs 0 fr) σ L [])=some (.at k',fr,h',v,[],[],[],true):=by kernel_rfl) (hc:zFz k'=true:=by kernel_rfl):Gt (fun r=>TrG Tryz.prog GG F B L Y (Q r) k S) c o z v A:=
 fun p _ e=>gg sch σ p (hk e) tg h hc
theorem lN [hX:HC F] {m:Nat} (sch:Sch) (σ:List Nat) {Q:R→QY Tryz.prog GG L} (hk: ∀ {r},A=some r→TrG Tryz.prog GG F B L Y (Q r) (toN m k') ⟨fr,h'⟩) (tg:List (List (Nat×Nat)×St):=[])
 (h:(zET Tryz.prog GG sch 400 k S ⟨c,o,z,tg⟩).bind (zbB (zJs 0 fr) σ L [])=some (.at k',fr,h',v,[],[],[],true):=by kernel_rfl) (hc:zFz k'=true:=by kernel_rfl) (hm:zLU k'=true:=by kernel_rfl):Gt (fun r=>TrG Tryz.prog GG F B L Y (Q r) k S) c o z v A:=
 lG sch σ (fun e=>en m (hk e) hm) tg h hc
theorem lE [hX:HC F] {fn:Func} {D:R→DV} {E:R→DH} (sch:Sch) (live σ:List Nat) (tg:List (List (Nat×Nat)×St):=[])
 (h:(zET Tryz.prog GG sch 400 k S ⟨c,o,z,tg⟩).bind (fun r=>(zY4 Tryz.prog live σ L [] fn (D r0) (E r0).length r).map fun q=>(q.1,zY3 q.2.1,q.2.2))=some (true,D r0,E r0,v,[],[],[],true):=by kernel_rfl):Gt (fun r=>TrK Tryz.prog GG F B L N (Fin Tryz.prog fn L (D r) (E r)) k S) c o z v (some r0):=
 lF fun p=>ee sch live σ p tg h
end
end Go.Proofs.YtekkngkphejfcaaGreatDoor
