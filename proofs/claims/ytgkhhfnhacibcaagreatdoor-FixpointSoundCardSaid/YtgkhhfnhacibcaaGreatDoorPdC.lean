/- Part 3 of 7 of what the proofs of these laws stand on. -/
import Derived.Test.YtgkhhfnhacibcaaGreatDoorPdB
import Derived.LoopIn
set_option linter.all false
namespace Go.Proofs.YtgkhhfnhacibcaaGreatDoor
abbrev zDg:=@List.drop_eq_nil_of_le
end Go.Proofs.YtgkhhfnhacibcaaGreatDoor
namespace Go.Proofs.YtgkhhfnhacibcaaGreatDoor
open Go.RowKit
structure DI (P:Program) (Γ:A1) where
 l:Nat
 Rd:Nat -> Prop
 encs:List (Array Value)
 J:Nat -> (Nat -> Prop) -> World -> Prop
 Jx:(Nat -> Prop) -> World -> Prop
 hJ: ∀ i,E6 (J i)
 hJx:E6 Jx
 lo: ∀ b,b<Γ.ng -> Rd b
 hy: ∀ i args G W1,encs[i]? =some args -> J i G W1 -> YieldAt Fence.wide 0 P l args W1 fun e W'=>
  AO (fun k=>¬ (G k∨Rd k)) W1 W'/\ ((e= .returned (.bool true)/\ J (i+1) G W')∨(e= .returned (.bool false)/\ Jx G W'))
def iY (P:Program) (Γ:A1) (L:Nat) (Rd:Nat -> Prop) (J:(Nat -> Prop) -> World -> Prop) (hJ:E6 J):Bi P Γ L where
 I:=fun N h ρ w=>∃ G,J G w/\ (∀ b,G b -> b<w.heap.size)/\ (∀ b,MO h ρ b -> G b)/\ (∀ b,N b↔(b<w.heap.size/\ Γ.ng<=b/\ ¬ G b/\ ¬ Rd b))
 st:=by
  rintro N h ρ w h' ρ' w' ⟨G,h1,h2,h3,h4⟩ H H' st _;have hs:=st.upd.size;refine ⟨fun b=>G b∨(w.heap.size<=b/\ b<w'.heap.size),hJ G _ w w' h1 (st.upd.mono fun b _ hb=>h3 b hb) (fun k hk=>hk.imp id fun h=>h.1) (fun k hk=>hk.elim (fun h=>zCu (h2 k h) hs) fun h=>h.2),fun b hb=>hb.elim (fun h=>zCu (h2 b h) hs) fun h=>h.2,fun b hb=>?_,fun b=>?_⟩
  ·rcases st.grow b hb with h | h
   ·exact .inl (h3 b h)
   ·obtain ⟨k,o,p,q1,q2,q3⟩:=hb;obtain ⟨_,_,c,t,z,e⟩:=H'.cel k o p b q1 q2 q3;exact .inr ⟨h,(zCl.1 e).1⟩
  ·rw [h4];constructor
   ·rintro ⟨a1,a2,a3,a4⟩;exact ⟨zCu a1 hs,a2,fun hx=>hx.elim a3 fun hx=>by omega,a4⟩
   ·rintro ⟨a1,a2,a3,a4⟩;have: ¬ (w.heap.size<=b):=fun hx=>a3 (.inr ⟨hx,a1⟩)
    exact ⟨by omega,a2,fun hx=>a3 (.inl hx),a4⟩
section
variable {P:Program} {Γ:A1}
def DI.Y (C:DI P Γ) (L i:Nat):Bi P Γ L:=iY P Γ L C.Rd (C.J i) (C.hJ i)
def DI.X (C:DI P Γ) (L:Nat):Bi P Γ L:=iY P Γ L C.Rd C.Jx C.hJx
def DI.Q (C:DI P Γ) (L:Nat):QY P Γ L:=fun e _ Y=>(e= .normal∨e= .ret)/\ (Y=C.Y L C.encs.length∨Y=C.X L)
def ay:DV -> Option Value
 | .int k n=>some (.int k n)
 | .bool b=>some (.bool b)
 | _=>none
theorem zAd {M:Nat -> Prop} {w:World} {ρ:List AJ} {d:DV} {v u:Value} (h:ay d=some v) (hr:AK M w d ρ u):u=v:=by
 cases d <;> simp only [ay,zDm] at h
 all_goals first | (subst h;exact hr) | (cases h)
def U0:List DV -> Option (List Value)
 | []=>some []
 | d::ds=>match ay d,U0 ds with
  | some v,some vs=>some (v::vs)
  | _,_=>none
theorem iB {M:Nat -> Prop} {w:World} {ρ:List AJ} {f:Operand -> Value} {g:Operand -> DV} (hr: ∀ x,AK M w (g x) ρ (f x)): ∀ {l:List Operand} {vs:List Value},U0 (l.map g)=some vs -> l.map f=vs
 | [],vs,h=>by cases h;rfl
 | x::l,vs,h=>by
  simp only [zD8,U0] at h;split at h
  ·rename_i v BY h1 h2;cases h;rw [zD8,zAd h1 (hr x),iB hr h2]
  ·cases h
def L5 (P:Program) (Γ:A1) (ops:Array Oper) (p:Nat) (S:St) (Aq:Bz):Option (List Value×Nat×St×St×List Prop):=match E2 P Γ ops (ops.toList.take p) S Aq with
 | none=>none
 | some (S1,vs,Me)=>match ops[p]? with
  | none=>none
  | some o=>match Kn ops S1 o with
   | some true=>match o.op with
    | .call c=>match c.callee with
     | .value f=>match Aa S1.fr f with
      | .yl l=>match U0 (c.args.toList.map (Aa S1.fr)) with
       | none=>none
       | some xs=>match E2 P Γ ops (ops.toList.drop (p+1)) ⟨D9 S1.fr o.dst (.bool true),S1.h⟩ Me with
        | none=>none
        | some (ST,vT,G3)=>match E2 P Γ ops (ops.toList.drop (p+1)) ⟨D9 S1.fr o.dst (.bool false),S1.h⟩ G3 with
         | none=>none
         | some (SF,vF,_)=>some (xs,l,ST,SF,vs++(vT++vF))
      | _=>none
     | _=>none
    | _=>none
   | _=>none
end
section
variable {P:Program} {Γ:A1} {N:Nat -> Prop} {S:St} {ρ:List AJ} {a:Act} {w:World} {F:Fence}
theorem ah (hF:D4 F P) {ops:Array Oper} (A5:EB ops=true) {Q:Exit -> Act -> World -> Prop} {Ez:List Oper}: ∀ (l:List Oper) (_: ∀ o∈l,o∈ops) {S:St} {ρ:List AJ} {a:Act} {w:World} {Aq:Bz} {S':St} {vs:List Prop} {CO:Bz},
 Ac P Γ N S ρ a w -> E2 P Γ ops l S Aq=some (S',vs,CO) -> Bm vs ->
 (∀ ρ' a' w',Ac P Γ N S' ρ' a' w' -> C5 S.h ρ w S'.h ρ' w' -> a'.defers=a.defers -> wpListIn F 0 P ops Q Ez a' w') -> wpListIn F 0 P ops Q (l++Ez) a w
 | [],_,S,ρ,a,w,Aq,S',vs,CO,R,h,_,hQ=>by
  cases h;exact hQ ρ a w R (C5.refl _ _ _) rfl
 | o::rest,hl,S,ρ,a,w,Aq,S',vs,CO,R,h,hv,hQ=>by
  have hd: ∀ c,o.op≠.defer c:=by
   obtain ⟨j,hj,e⟩:=Array.getElem_of_mem (hl o (by simp));exact IS A5 (j:=j) (by rw [zDQ hj,e])
  have Dv: ∀ o∈rest,o∈ops:=fun o ho=>hl o (by simp [ho])
  have DD: ∀ v,(a.put o.dst v).defers=a.defers:=fun v=>by cases ho:o.dst <;> simp [Act.put]
  simp only [E2] at h;rw [List.cons_append];unfold wpListIn;split at h
  ·split at h
   ·cases h
   ·rename_i S1 Cw ext1 Me h1;split at h
    ·cases h
    ·rename_i S2 FS G3 h2;cases h;obtain ⟨BZ,CG⟩:=Cz.1 hv;exact ba hF R hd h1 BZ fun ρ' a' w' R' st Dy _=>ah hF A5 rest Dv R' h2 CG fun ρ'' Fj CF Fk Dk HB=>hQ ρ'' Fj CF Fk (st.trans Dk) (HB.trans Dy)
  ·split at h
   ·cases h
   ·rename_i S1 Cw Sr h1;split at h
    ·cases h
    ·rename_i S2 FS G3 h2;cases h;obtain ⟨BZ,CG⟩:=Cz.1 hv;obtain ⟨e1,hs⟩:=UU R h1 BZ
     have go: ∀ v,Ac P Γ N S1 ρ (a.put o.dst v) w -> wpListIn F 0 P ops Q (rest++Ez) (a.put o.dst v) w:=fun v R'=>
      ah hF A5 rest Dv R' h2 CG fun ρ'' Fj CF Fk Dk HB=>hQ ρ'' Fj CF Fk (by rw [←e1];exact Dk) (HB.trans (DD v))
     rcases hs with ⟨hw,v,g1,g2⟩ | ⟨hw,g2⟩
     ·rw [zB3 hw];refine ⟨fun f _=>hF.fn f,?_⟩;rw [zEj _ _ _ hd,g1 w (Keep.ofExt (Ar.refl w))];exact go v g2
     ·rw [zCt (by rw [hw];exact zET)];exact ⟨fun f _=>hF.fn f,go undef g2⟩
theorem qt {l:Nat} {ρ':Operand -> Value} {o:Oper} {c:Call} {f:Operand} {vs:List Value} (ho:o.op= .call c) (hc:c.callee= .value f) (hf:ρ' f= .func (.yield l) #[] #[]) (hv:c.args.toList.map ρ'=vs):(execOp ρ' o).run P w=(Instr.yield l vs.toArray).run P w:=by
 unfold execOp;rw [ho]
 show ((resolve ρ' c o.type)>>=fun d=>invoke d.target d.args).run P w=_
 unfold resolve;rw [hc];simp only [Deferred.ofValue,hf]
 have e: #[]++Array.map ρ' c.args=vs.toArray:=by
  rw [←hv];apply Array.ext';simp
 have he:((pure { target:=.fn (.yield l) #[],args:=#[]++Array.map ρ' c.args }:Sem Deferred)>>=fun d=>invoke d.target d.args).run P w=(Instr.yield l (#[]++Array.map ρ' c.args)).run P w:=rfl;rw [he,e]
theorem Tr.yield {L:Nat} {C:DI P Γ} {i:Nat} {Q:QY P Γ L} (hF:D4 Fence.wide P) {id:Nat} {ops:Array Oper} {p:Nat} {Aq:Bz} {x:Array Value} {ST SF:St} {vs:List Prop} (A5:EB ops=true)
 (h:L5 P Γ ops p S Aq=some (x.toList,C.l,ST,SF,vs)) (hv:Bm vs) (hx:C.encs[i]? =some x) (hT:Q .normal ST (C.Y L (i+1))) (hE:Q .normal SF (C.X L)):Tr P Γ Fence.wide none L (C.Y L i) (.region id ops false) S Q:=fun N ρ a w R y m b=>by
 unfold L5 at h;split at h
 ·cases h
 rename_i S1 Cw Me h1;split at h
 ·cases h
 rename_i o ho;split at h
 ·rename_i hw;split at h
  ·rename_i c yH;split at h
   ·rename_i f hc;split at h
    ·rename_i l hl;split at h
     ·cases h
     rename_i xs ZZ;split at h
     ·cases h
     rename_i ST' vT G3 h2;split at h
     ·cases h
     rename_i SF' vF J3 h3;cases h;obtain ⟨BZ,Cu⟩:=Cz.1 hv;obtain ⟨wR,wS⟩:=Cz.1 Cu;have hp:p<ops.toList.length:=by simpa using (zCl.1 ho).1
     have wa:ops.toList=ops.toList.take p++o::ops.toList.drop (p+1):=by
      have e:ops.toList[p]=o:=by
       have:=(zCl.1 ho).2;simpa using this
      rw [←e,←zDD hp,List.take_append_drop]
     have CD: ∀ o'∈ops.toList,o'∈ops:=fun o' h=>by simpa using h
     have hd: ∀ c,o.op≠.defer c:=IS A5 ho;refine wpIn_region_list ?_;rw [wa];refine ah hF A5 _ (fun o' G9=>CD o' (List.mem_of_mem_take G9)) R h1 BZ fun ρ1 a1 w1 R1 N5 yy=>?_
     obtain ⟨G,y1,y2,y3,y4⟩:=(C.Y L i).st y R.hr R1.hr N5.st (fun k p _ hp=>N5.pl k p hp);obtain ⟨fn,tmps,mH,body,hy,hR⟩:=C.hy i x G w1 hx y1;unfold wpListIn;rw [zB3 (Jf R1 hw)]
     have yj:a1.eval f= .func (.yield C.l) #[] #[]:=by
      have hr:=Bo R1 f;rw [hl] at hr;exact hr
     have zI:c.args.toList.map a1.eval=x.toList:=iB (f:=a1.eval) (g:=Aa S1.fr) (fun x=>Bo R1 x) ZZ;refine ⟨fun f _=>hF.fn f,?_⟩;rw [zEj _ _ _ hd,qt yH hc yj zI,hy];refine ⟨fun hx=>(by cases hx),hR.mono ?_⟩;have Am:a1.defers= []:=yy.trans m;rintro e W' ⟨hu,hj⟩;have hs:=hu.size;have Be:AO N w1 W':=hu.mono fun bb AL hn=>(y4 bb).2 ⟨AL,zFN fun hx=>hn (.inr (C.lo bb hx)),fun hx=>hn (.inl hx),fun hx=>hn (.inr hx)⟩
     have j8: ∀ bb,N bb -> N bb/\ Γ.ng<=bb:=fun bb hb=>⟨hb,((y4 bb).1 hb).2.1⟩
     have j3: ∀ bb,(bb<W'.heap.size/\ Γ.ng<=bb/\ ¬ G bb/\ ¬ C.Rd bb) -> N bb∨w1.heap.size<=bb:=fun bb ⟨q1,q2,q3,q4⟩=>by
      rcases zD3 bb w1.heap.size with h | h
      ·exact .inl ((y4 bb).2 ⟨h,q2,q3,q4⟩)
      ·exact .inr h
     have H':BP P Γ (fun bb=>bb<W'.heap.size/\ Γ.ng<=bb/\ ¬ G bb/\ ¬ C.Rd bb) S1.h ρ1 W':=R1.hr.foreign Be j8 j3 fun bb ⟨q1,q2,_⟩=>⟨q1,q2⟩
     have Df:Ac P Γ (fun bb=>bb<W'.heap.size/\ Γ.ng<=bb/\ ¬ G bb/\ ¬ C.Rd bb) S1 ρ1 a1 W':=⟨H',R1.fr.out (BV.foreign (Γ:=Γ) Be j8 j3)⟩;have DD: ∀ v,(a1.put o.dst v).defers=a1.defers:=fun v=>by cases ho:o.dst <;> simp [Act.put]
     rcases hj with ⟨rfl,hj⟩ | ⟨rfl,hj⟩
     ·have R':=IF Df o.dst (d:=.bool true) (v:=.bool true) rfl;refine Ld hF A5 _ (fun o' G9=>CD o' (List.mem_of_mem_drop G9)) R' h2 wR fun ρ2 a2 w2 R2 QC aM=>?_
      refine ⟨ST,ρ2,_,C.Y L (i+1),hT,R2,(C.Y L (i+1)).st ⟨G,hj,fun bb hb=>zCu (y2 bb hb) hs,y3,fun bb=>Iff.rfl⟩ R'.hr R2.hr QC.st (fun k p _ hp=>QC.pl k p hp),?_,Bd.none⟩
      show a2.defers= []
      rw [aM,DD];exact Am
     ·have R':=IF Df o.dst (d:=.bool false) (v:=.bool false) rfl;refine Ld hF A5 _ (fun o' G9=>CD o' (List.mem_of_mem_drop G9)) R' h3 wS fun ρ2 a2 w2 R2 QC aM=>?_
      refine ⟨SF,ρ2,_,C.X L,hE,R2,(C.X L).st ⟨G,hj,fun bb hb=>zCu (y2 bb hb) hs,y3,fun bb=>Iff.rfl⟩ R'.hr R2.hr QC.st (fun k p _ hp=>QC.pl k p hp),?_,Bd.none⟩
      show a2.defers= []
      rw [aM,DD];exact Am
    ·cases h
   ·cases h
  ·cases h
 ·cases h
end
theorem ke {P:Program} {f:Nat} {fn:Func} (hf:P.funcs[f]? =some fn) (hb:fn.body.isSome=true) (hn:(fn.name== "runtime.NumGoroutine")=false) (args:Array Value) (W:World):(callFunc f args).run P W= .ok (.enter f args) W:=by
 have Oy: ¬ fn.name= "runtime.NumGoroutine" :=by simpa using hn
 have C4: ¬ fn.body=none:=by intro e;rw [e] at hb;cases hb
 simp [callFunc,go_sem,hf,Oy,C4]
theorem ES.iterN {P:Program} {Γ:A1} {f gf m:Nat} {fn:Func} {ds:List DV} {c:Nat -> DV} {h0:DH} {encs:List (Array Value)} (DS:ES P Γ f ds [] (.fn gf m c) h0 true) (Ff:ds.all G5=true)
 (hf:P.funcs[gf]? =some fn) (hb:fn.body.isSome=true) (hn:(fn.name== "runtime.NumGoroutine")=false) (Vf:fn.results= #[])
 (body: ∀ C:DI P Γ,C.encs=encs -> Av P Γ Fence.wide none h0.length (C.Y h0.length 0) (C.Q h0.length) [.code (AZ fn)] ⟨.yl C.l::(List.range m).map c++List.replicate (fn.ntmps-(m+1)) .any,h0⟩) (h:DH):ES P Γ f ds h (.it h.length) (h++[some (.iter encs)]) true:=by
 refine ⟨DS.1,fun N ρ w args HR Ce=>?_⟩;refine (DS.2 (MS N h ρ) [] w args (Ot (fun b hb=>HR.lt2 hb) HR.gi) ⟨Ce.1,fun i hi=>?_⟩).mono ?_
 ·have hx:=OS (zCs.1 Ff (ds.getD i .any) (by simp [hi]));exact AK.out _ (Db (fun b hb=>No.1 hb) []) (hx _ _ _ _ (Ce.2 i hi))
 ·rintro e w' ⟨v,rfl,⟨⟨ρ',g1,g2,g3,g4⟩,g5⟩⟩;have hE:=g5 rfl;obtain ⟨lb,hv,hl,Vn⟩:=g2;have Hp: ∀ b,MO h0 ρ' b -> w.heap.size<=b:=fun b hb=>(g3.grow b hb).resolve_left fun ⟨k,o',p',q1,_⟩=>by simp at q1
  have C3: ∀ b,MO h0 ρ' b -> Γ.ng<=b/\ ¬ MS N h ρ b/\ DW w' b:=fun b ⟨k,o,q,q1,q2,q3⟩=>g1.cel k o q b q1 q2 q3
  have Gb:Γ.ng<=w.heap.size:=Γ.lo _ HR.gi;have Az:=hE.size
  have AL: ∀ b,MO h0 ρ' b -> b<w'.heap.size:=fun b hb=>by
   obtain ⟨_,_,c,t,z,h⟩:=C3 b hb;exact (zCl.1 h).1
  have lo: ∀ b,b<Γ.ng -> b<w'.heap.size/\ ¬ MS (MS N h ρ) h0 ρ' b:=fun b hb=>⟨zCu hb (zCv Gb Az),fun hx=>by
   rcases hx with hx | hx
   ·have:=(HR.lt2 hx).2;omega
   ·have:=(C3 b hx).1;omega⟩
  let p:AJ:=⟨0,0,0,v,fun b=>MO h0 ρ' b⟩
  have hp: ∀ b,p.foot b -> w.heap.size<=b/\ DW w' b:=fun b hb=>⟨Hp b hb,(C3 b hb).2.2⟩
  refine ⟨v,rfl,⟨⟨ρ++[p],HR.snoc hE hp ?_,⟨p,by rw [←HR.len];simp,rfl⟩,BH.snoc HR hE fun b hb=>(hp b hb).1,fun _ _ h=>Dz h⟩,g5⟩⟩;refine ⟨gf,lb,fun b=>b<w'.heap.size/\ ¬ MS (MS N h ρ) h0 ρ' b,⟨hv,fun args W=>ke hf hb hn args W⟩,?_,fun b hb=>⟨fun hm=>?_,hb.1⟩,AL⟩
  ·intro l J Jx G W hJ hJx hU hG ab hY zg
   let C:DI P Γ:=⟨l,fun b=>b<w'.heap.size/\ ¬ MS (MS N h ρ) h0 ρ' b,encs,J,Jx,hJ,hJx,lo,hY⟩
   have T:=body C rfl;cases hc:fn.body with
   | none=>rw [hc] at hb;cases hb
   | some code=>
   have eb:AZ fn=code:=by unfold AZ;rw [hc];rfl
   rw [eb] at T;refine callsIn_of_wp hf hc trivial ?_ rfl
   have j2: ∀ b,(b<W.heap.size/\ Γ.ng<=b/\ ¬ G b/\ ¬ (b<w'.heap.size/\ ¬ MS (MS N h ρ) h0 ρ' b)) -> MS N h ρ b∨w'.heap.size<=b:=fun b ⟨_,_,q3,q4⟩=>by
    rcases zD3 b w'.heap.size with hx | hx
    ·by_cases hm:MS (MS N h ρ) h0 ρ' b
     ·rcases hm with hm | hm
      ·exact .inl hm
      ·exact absurd (hG b hm) q3
     ·exact absurd ⟨hx,hm⟩ q4
    ·exact .inr hx
   have hu:AO (fun b=>MS N h ρ b) w' W:=hU.mono fun b AL hx=>by
    by_cases hm:MS (MS N h ρ) h0 ρ' b
    ·rcases hm with hm | hm
     ·exact hm
     ·exact absurd (.inl hm) hx
    ·exact absurd (.inr ⟨AL,hm⟩) hx
   have j6: ∀ b,MS N h ρ b -> MS N h ρ b/\ Γ.ng<=b:=fun b hb=>⟨hb,(HR.lt2 hb).2⟩
   have HW:BP P Γ (fun b=>b<W.heap.size/\ Γ.ng<=b/\ ¬ G b/\ ¬ (b<w'.heap.size/\ ¬ MS (MS N h ρ) h0 ρ' b)) h0 ρ' W:=g1.foreign hu j6 j2 fun b hb=>⟨hb.1,hb.2.1⟩
   have zx:CA (MS (MS N h ρ) h0 ρ') w' ρ' ((List.range m).map c) lb:=⟨by simp [hl],fun j hj=>by
    have A3:j<m:=by simpa using hj
    obtain ⟨u,q1,q2⟩:=Vn j A3;have e1:((List.range m).map c).getD j .any=c j:=by simp [A3]
    have e2:lb.getD j undef=u:=by rw [zDA,q1];rfl
    rw [e1,e2];exact q2⟩
   have zy:=zx.out (BV.foreign (Γ:=Γ) hu j6 j2)
   have fr:CA (MS (fun b=>b<W.heap.size/\ Γ.ng<=b/\ ¬ G b/\ ¬ (b<w'.heap.size/\ ¬ MS (MS N h ρ) h0 ρ' b)) h0 ρ') W ρ' (.yl l::(List.range m).map c++List.replicate (fn.ntmps-(m+1)) .any) (#[.func (.yield l) #[] #[]]++lb++Array.replicate (fn.ntmps-(#[Value.func (.yield l) #[] #[]]++lb).size) undef):=by
    have e3:fn.ntmps-(#[Value.func (.yield l) #[] #[]]++lb).size=fn.ntmps-(m+1):=by simp [hl,Nat.add_comm]
    rw [e3];refine CA.append ?_ (CA.anys _ _ _ _);have:DV.yl l::(List.range m).map c= [DV.yl l]++(List.range m).map c:=rfl;rw [this]
    exact CA.append ⟨rfl,fun j hj=>by
     have:j=0:=by simpa using hj
     subst this;rfl⟩ zy
   refine zEe ((show Tr P Γ Fence.wide none h0.length (C.Y h0.length 0) code _ (Dp P Γ Fence.wide none h0.length (C.Q h0.length) []) from T) _ ρ' _ W ⟨HW,fr⟩ ⟨G,zg,ab,fun b hb=>hG b hb,fun b=>Iff.rfl⟩ rfl Bd.none) ?_;rintro e a' W' ⟨S',ρ2,N',Y',q1,q2,q3,q4,q5⟩
   have fin:(Y'=C.Y h0.length C.encs.length∨Y'=C.X h0.length) -> (∃ G',J encs.length G' W')∨∃ G',Jx G' W':=by
    rintro (rfl | rfl)
    ·obtain ⟨G',k1,_⟩:=q3;exact .inl ⟨G',k1⟩
    ·obtain ⟨G',k1,_⟩:=q3;exact .inr ⟨G',k1⟩
   cases e with
   | normal=>exact bodyPost_end (results_none Vf _ _ _) q4 ⟨⟨_,rfl⟩,fin q1.2⟩
   | ret=>exact bodyPost_ret (results_none Vf _ _ _) q4 ⟨⟨_,rfl⟩,fin q1.2⟩
   | exit id=>exact absurd q1.1 (by simp)
   | goto t=>exact absurd q1.1 (by simp)
   | panic ch=>exact q1.elim
   | outgrown=>exact q1.elim
  ·rcases hm with hm | hm
   ·exact hb.2 (.inl (.inl hm))
   ·rcases MO.snoc HR hm with hm | hm
    ·exact hb.2 (.inl (.inr hm))
    ·exact hb.2 (.inr hm)
section
variable {P:Program} {Γ:A1}
def MT:List KI -> Option (Array Oper×List KI)
 | .code (.region _ ops false)::k=>some (ops,k)
 | _=>none
def YS (live σ:List Nat) (L:Nat) (r:List Value×Nat×St×St×List Prop):List Value×Nat×List DV×DH×List DV×DH×List Prop×Bool:=
 (r.1,r.2.1,(Proofs.YtgkhhfnhacibcaaGreatDoor.comp live σ r.2.2.1).fr,(Proofs.YtgkhhfnhacibcaaGreatDoor.comp live σ r.2.2.1).h,(Proofs.YtgkhhfnhacibcaaGreatDoor.comp live σ r.2.2.2.1).fr,(Proofs.YtgkhhfnhacibcaaGreatDoor.comp live σ r.2.2.2.1).h,r.2.2.2.2,Jn σ L r.2.2.1.h.length&&Jn σ L r.2.2.2.1.h.length)
theorem Av.yieldAt {L:Nat} {C:DI P Γ} {i:Nat} {Q:QY P Γ L} {S:St} {K k:List KI} {ops:Array Oper} (hF:D4 Fence.wide P) (hK:MT K=some (ops,k)) (A5:EB ops=true) (p:Nat) (Aq:Bz) {x:Array Value} (live σ:List Nat) (PI:List DV) (hT:DH) (PJ:List DV) (hE:DH) (vs:List Prop)
 (h:(L5 P Γ ops p S Aq).map (YS live σ L)=some (x.toList,C.l,PI,hT,PJ,hE,vs,true)) (hv:Bm vs) (hx:C.encs[i]? =some x) (hc:IT k=true) (aB:Av P Γ Fence.wide none L (C.Y L (i+1)) Q k ⟨PI,hT⟩) (aC:Av P Γ Fence.wide none L (C.X L) Q k ⟨PJ,hE⟩):Av P Γ Fence.wide none L (C.Y L i) Q K S:=by
 unfold MT at hK;split at hK
 ·rename_i id tV k';cases hK;cases hr:L5 P Γ ops p S Aq with
  | none=>rw [hr] at h;cases h
  | some r=>
   obtain ⟨xs,l,ST,SF,Cw⟩:=r;rw [hr] at h;simp only [zDI,YS,zDm,zD7,zCp] at h;obtain ⟨rfl,rfl,rfl,rfl,rfl,rfl,rfl,s1,s2⟩:=h;exact Tr.yield hF A5 hr hv hx (BU.le (BO.comp live σ ST s1) hc aB) (BU.le (BO.comp live σ SF s2) hc aC)
 ·cases hK
theorem U1 {α β:Type} {o:Option α} {f:α -> β} {r:β} (h:o.map f=some r): ∃ a,o=some a/\ r=f a:=by
 cases o with
 | none=>cases h
 | some a=>cases h;exact ⟨a,rfl,rfl⟩
theorem WO {α β:Type} {l:List β} {i:Nat} {f:α -> β} {x:α} {r:List α} (hd:l.drop i=(x::r).map f):l[i]? =some (f x)/\ i+1<=l.length/\ l.drop (i+1)=r.map f:=by
 have AL:i<l.length:=by
  rcases zD3 i l.length with h | h
  ·exact h
  ·rw [zDg h] at hd;cases hd
 rw [zDD AL] at hd;injection hd with h1 h2
 exact ⟨by rw [zAe AL,h1],AL,h2⟩
theorem SZ {α β:Type} {l:List β} {i:Nat} {f:α -> β} (hi:i<=l.length) (hd:l.drop i=([]:List α).map f):i=l.length:=by
 have:=congrArg List.length hd;simp at this;omega
end
def Bg (x:Int):Array Value:=#[.int .i64 x]
def NS (x:Int×Int):Array Value:=#[.int .i64 x.1,.int .i64 x.2]
end Go.Proofs.YtgkhhfnhacibcaaGreatDoor
namespace Go.Proofs.YtgkhhfnhacibcaaGreatDoor
abbrev zEH:=@List.contains_iff_mem
end Go.Proofs.YtgkhhfnhacibcaaGreatDoor
namespace Go.Proofs.YtgkhhfnhacibcaaGreatDoor
open Go.RowKit
def ID:DV -> Bool
 | .ints _=>false
 | .bools _=>false
 | .sl .. =>false
 | .fp .. =>false
 | .agg m f=>(List.range m).all fun j=>ID (f j)
 | .tup m f=>(List.range m).all fun j=>ID (f j)
 | .fn _ m f=>(List.range m).all fun j=>ID (f j)
 | _=>true
def QJ:Option DO -> Bool
 | none=>true
 | some (.cells l)=>l.all ID
 | some (.ints _)=>true
 | some (.bools _)=>true
 | some (.mo _)=>true
 | _=>false
def MOf (H:DH) (σ:List Nat) (ρ:List AJ) (b:Nat):Prop:=∃ (k:Nat) (o:DO) (p:AJ),k∈σ/\ H[k]? =some (some o)/\ ρ[k]? =some p/\ p.foot b
def Kf (H:DH) (σ:List Nat) (d d0:DV):Prop:=∀ (P:Program) (Γ:A1) (N:Nat -> Prop) (ρ:List AJ) (w:World) (v:Value),BP P Γ N H ρ w -> AK (MS N H ρ) w d ρ v -> AK (MOf H σ ρ) w d0 [] v
theorem d4 {M M':Nat -> Prop} {w:World} {σ:List Nat} {b:Nat} {ρ ρ':List AJ} (hρ: ∀ (k:Nat) (p:AJ),ρ[k]? =some p -> ρ'[C1 σ b k]? =some p): ∀ (d:DV) {v:Value},ID d=true -> AK M w d ρ v -> AK M' w (up σ b d) ρ' v:=by
 intro d
 induction d with
 | any=>intro v _ _;trivial
 | nils=>intro v _ h;exact h
 | int k n=>intro v _ h;exact h
 | bool b=>intro v _ h;exact h
 | str s=>intro v _ h;exact h
 | ints l=>intro v hs h;cases hs
 | bools l=>intro v hs h;cases hs
 | sl m n f _=>intro v hs h;cases hs
 | fp m f _=>intro v hs h;cases hs
 | agg m f ih=>
  rintro v hs ⟨cs,e,hz,h⟩;simp only [ID,zCs,zCy] at hs;exact ⟨cs,e,hz,fun j hj=>let ⟨u,h1,h2⟩:=h j hj;⟨u,h1,IA hj (ih j (hs j hj) h2)⟩⟩
 | tup m f ih=>
  rintro v hs ⟨cs,e,hz,h⟩;simp only [ID,zCs,zCy] at hs;exact ⟨cs,e,hz,fun j hj=>let ⟨u,h1,h2⟩:=h j hj;⟨u,h1,IA hj (ih j (hs j hj) h2)⟩⟩
 | fn g m c ih=>
  rintro v hs ⟨cs,e,hz,h⟩;simp only [ID,zCs,zCy] at hs;exact ⟨cs,e,hz,fun j hj=>let ⟨u,h1,h2⟩:=h j hj;⟨u,h1,IA hj (ih j (hs j hj) h2)⟩⟩
 | ref k j=>rintro v _ ⟨p,hp,r⟩;exact ⟨p,hρ k p hp,r⟩
 | msl k m o n=>rintro v _ ⟨p,cap,hp,r⟩;exact ⟨p,cap,hρ k p hp,r⟩
 | mp k m i j=>rintro v _ ⟨p,hp,r⟩;exact ⟨p,hρ k p hp,r⟩
 | it k=>rintro v _ ⟨p,hp,r⟩;exact ⟨p,hρ k p hp,r⟩
 | cst u=>intro v _ h;exact h
 | yl l=>intro v _ h;exact h
 | mse k m o n=>rintro v _ ⟨p,a,cap,hp,r⟩;exact ⟨p,a,cap,hρ k p hp,r⟩
 | mri k i=>rintro v _ ⟨p,vs,hp,r⟩;exact ⟨p,vs,hρ k p hp,r⟩
theorem oX {P:Program} {M M':Nat -> Prop} {w:World} {σ:List Nat} {b:Nat} {ρ ρ':List AJ} {p:AJ} (hρ: ∀ (k:Nat) (p:AJ),ρ[k]? =some p -> ρ'[C1 σ b k]? =some p) {o o':DO} (hs:QJ (some o)=true) (ho:Cg σ b (some o)=some o') (h:DU P M w ρ p o):DU P M' w ρ' p o':=by
 cases o with
 | cells l=>
  cases ho
  show Ab w p (l.map (up σ b)).length _
  rw [zDe];refine Ab.out h rfl fun j u hj hu=>?_
  have:(l.map (up σ b)).getD j .any=up σ b (l.getD j .any):=by simp [hj]
  rw [this];refine d4 hρ _ ?_ hu;simp only [QJ,zCs] at hs;exact hs _ (by simp [hj])
 | ints l=>cases ho;exact Ab.out h rfl fun j u _ hu=>hu
 | bools l=>cases ho;exact Ab.out h rfl fun j u _ hu=>hu
 | arr m n f=>cases hs
 | iter encs=>cases hs
 | mo x=>cases ho;exact h
section
variable {P:Program} {Γ:A1}
theorem ES.embedS {f:Nat} {ds:List DV} {h:DH} {d:DV} {h':DH} {ext:Bool} (DS:ES P Γ f ds h d h' ext) (σ:List Nat) (H:DH) (hn:σ.Nodup) (AL: ∀ k∈σ,k<H.length) (hl:σ.length=h.length) (Dv:h.length<=h'.length)
 (hh:(σ.map fun k=>H.getD k none)=h.map (Cg σ H.length)) {EL:List DV} (Ah:EL.length=ds.length) (zM: ∀ i,i<ds.length -> EL.getD i .any=up σ H.length (ds.getD i .any)∨Kf H σ (EL.getD i .any) (ds.getD i .any)) (wh:ID d=true) (we:h'.all QJ=true):ES P Γ f EL H (up σ H.length d) (Cr H σ h') ext:=by
 refine ⟨DS.1,fun N ρ w args HR Ce=>?_⟩;obtain ⟨ρ0,Rj⟩: ∃ ρ0,ρ0=σ.map fun k=>ρ.getD k Yf:=⟨_,rfl⟩
 have RQ:ρ0.length=σ.length:=by rw [Rj];simp
 have Er: ∀ {i k:Nat},σ[i]? =some k -> ρ0[i]? =ρ[k]? :=fun {i k} hk=>by
  have Cv:k<ρ.length:=by rw [HR.len];exact AL k (zDN hk)
  rw [Rj,zC1,hk];simp [Cv]
 have Jo: ∀ {i:Nat},i<σ.length -> ∃ k,σ[i]? =some k/\ C1 σ H.length i=k:=fun {i} hi=>by
  refine ⟨σ[i],by simp [hi],?_⟩;unfold C1;rw [zB3 hi];simp [hi]
 have GF: ∀ {i:Nat} {o:DO},h[i]? =some (some o) -> ∃ k o',σ[i]? =some k/\ H[k]? =some (some o')/\ Cg σ H.length (some o)=some o':=fun {i o} hi=>by
  have Cp:i<σ.length:=by rw [hl];exact (zCr.1 hi).1
  obtain ⟨k,hk,_⟩:=Jo Cp;have e:=congrArg (·[i]?) hh;simp only [zC1,hk,hi,zDI] at e;have Br:=AL k (zDN hk);have e:H.getD k none=Cg σ H.length (some o):=zCq e;have e2: ∃ o',Cg σ H.length (some o)=some o':=by cases o <;> exact ⟨_,rfl⟩
  obtain ⟨o',G9⟩:=e2;refine ⟨k,o',hk,?_,G9⟩;rw [G9] at e;rw [zAe Br];rw [u8,zAe Br] at e;exact congrArg some e
 have gT: ∀ {i k:Nat} {o':DO},σ[i]? =some k -> H[k]? =some (some o') -> ∃ o,h[i]? =some (some o)/\ Cg σ H.length (some o)=some o':=fun {i k o'} hk ho=>by
  have Cp:i<h.length:=by rw [←hl];exact (zCr.1 hk).1
  have e:=congrArg (·[i]?) hh;simp only [zC1,hk,zAe Cp,zDI] at e;have e:H.getD k none=Cg σ H.length h[i]:=zCq e;rw [V1 ho] at e;obtain ⟨o0,e0⟩:=Nv e.symm;exact ⟨o0,by rw [zAe Cp,e0],by rw [e0] at e;exact e.symm⟩
 obtain ⟨N0,GP⟩: ∃ N0:Nat -> Prop,N0=fun _=>False:=⟨_,rfl⟩
 have Hg: ∀ b,MO h ρ0 b -> MO H ρ b:=by
  rintro b ⟨i,o,p,g1,g2,g3⟩;obtain ⟨k,o',e1,e2,_⟩:=GF g1;exact ⟨k,o',p,e2,(Er e1).symm.trans g2,g3⟩
 have Ml: ∀ b,MS N0 h ρ0 b -> MS N H ρ b:=by
  rintro b (hb | hb)
  ·rw [GP] at hb;exact hb.elim
  ·exact .inr (Hg b hb)
 have dn: ∀ (k:Nat) (p:AJ),ρ[C1 σ H.length k]? =some p -> ρ0[k]? =some p:=fun k p hp=>by
  by_cases hk:k<σ.length
  ·obtain ⟨k',e1,e2⟩:=Jo hk;rw [e2] at hp;exact (Er e1).trans hp
  ·unfold C1 at hp;rw [zCt hk] at hp;have:=(zCr.1 hp).1;rw [HR.len] at this;omega
 have foreign: ∀ {k:Nat} {o:DO} {p:AJ} {b:Nat},C9 σ k=none -> H[k]? =some (some o) -> ρ[k]? =some p -> p.foot b -> ¬ MO h ρ0 b:=by
  rintro k' o2 p2 b q1 q2 q3 q4 ⟨i,o,p,g1,g2,g3⟩;obtain ⟨k,o',e1,e2,_⟩:=GF g1;have hp:=(Er e1).symm.trans g2;refine HR.dis k k' o' o2 p p2 b ?_ e2 q2 hp q3 g3 q4;rintro rfl;rw [OK hn e1] at q1;cases q1
 have H0:BP P Γ N0 h ρ0 w:=by
  refine ⟨by rw [RQ,hl],fun i o hi=>?_,fun i o p b g1 g2 g3=>?_,fun i i' o1 o2 p1 p2 b AY g1 g2 g3 g4 g5 g6=>?_,fun b hb=>HR.lt2 (Ml b (.inl hb)),HR.gi⟩
  ·obtain ⟨k,o',e1,e2,e3⟩:=GF hi;obtain ⟨p,hp,hr⟩:=HR.obj k o' e2;exact ⟨p,(Er e1).trans hp,kw Ml dn e3 hr⟩
  ·obtain ⟨k,o',e1,e2,e3⟩:=GF g1;obtain ⟨q1,q2,q3⟩:=HR.cel k o' p b e2 ((Er e1).symm.trans g2) g3;exact ⟨q1,fun hb=>by rw [GP] at hb;exact hb,q3⟩
  ·obtain ⟨k,o',e1,e2,e3⟩:=GF g1;obtain ⟨k',Ya,PS,SY,e3'⟩:=GF g2;refine HR.dis k k' o' Ya p1 p2 b ?_ e2 SY ((Er e1).symm.trans g3) ((Er PS).symm.trans g4) g5 g6;rintro rfl;have a1:=OK hn e1;have a2:=OK hn PS;exact AY (zCq (a1.symm.trans a2))
 refine (DS.2 N0 ρ0 w args H0 ⟨by rw [←Ce.1,Ah],fun i hi=>?_⟩).mono ?_
 ·have:=Ce.2 i (by rw [Ah];exact hi);rcases zM i hi with e | e
  ·rw [e] at this;exact a6 Ml dn _ this
  ·refine OJ (AK.out _ (Db (fun b hb=>?_) []) (e P Γ N ρ w _ HR this));rcases hb with hb | ⟨i,o,p,g1,g2,g3⟩
   ·rw [GP] at hb;exact hb.elim
   ·obtain ⟨k,o',e1,e2,_⟩:=GF g1;exact ⟨k,o',p,zDN e1,e2,(Er e1).symm.trans g2,g3⟩
 ·rintro e w' ⟨v,rfl,⟨⟨ρ1,g1,g2,g3,g4⟩,g5⟩⟩;have l1:ρ1.length=h'.length:=g1.len;obtain ⟨ρ',GJ⟩: ∃ ρ',ρ'=ρ++ρ1.drop σ.length:=⟨_,rfl⟩
  have TD: ∀ {i k:Nat},σ[i]? =some k -> ρ1[i]? =ρ[k]? :=fun {i k} hk=>by
   have Cp:i<ρ0.length:=by rw [RQ];exact (zCr.1 hk).1
   have:=g4 i ρ0[i] (by simp [Cp]);rw [this,←Er hk];simp [Cp]
  have FF: ∀ {k:Nat},k<H.length -> ρ'[k]? =ρ[k]? :=fun {k} hk=>by rw [GJ,zC8 (by rw [HR.len];exact hk)]
  have Pw: ∀ (k:Nat) (p:AJ),ρ1[k]? =some p -> ρ'[C1 σ H.length k]? =some p:=fun k p hp=>by
   by_cases hk:k<σ.length
   ·obtain ⟨k',e1,e2⟩:=Jo hk;rw [e2,FF (AL k' (zDN e1)),←TD e1];exact hp
   ·unfold C1;rw [zCt hk,GJ,zDJ (by rw [HR.len];omega),zEA,HR.len];rw [show σ.length+(H.length+(k-σ.length)-H.length)=k by omega];exact hp
  have Yy:(Cr H σ h').length=H.length+(h'.length-σ.length):=by simp [Cr]
  have GV: ∀ {k:Nat} {o':DO},(Cr H σ h')[k]? =some (some o') -> (k<H.length/\ C9 σ k=none/\ H[k]? =some (some o')/\ ρ'[k]? =ρ[k]?)∨∃ i o,h'[i]? =some (some o)/\ Cg σ H.length (some o)=some o'/\ ρ'[k]? =ρ1[i]? /\ k=C1 σ H.length i:=by
   intro k o' hk
   by_cases Br:k<H.length
   ·unfold Cr at hk;rw [zC8 (by simpa using Br),zC1,zEO Br] at hk;simp only [zDI,zDm] at hk;split at hk
    ·rename_i i hi;have KM:=I5 hi;obtain ⟨o0,e0⟩:=Nv hk;have Cp:i<h'.length:=zCu (by rw [←hl];exact (zCr.1 KM).1) Dv;rw [e0] at hk;refine .inr ⟨i,o0,?_,hk,?_,?_⟩
     ·rw [zAe Cp];rw [u8,zAe Cp] at e0;exact congrArg some e0
     ·rw [FF Br,TD KM]
     ·obtain ⟨k2,e1,e2⟩:=Jo (zCr.1 KM).1;rw [e2];exact zCq (KM.symm.trans e1)
    ·rename_i hi;refine .inl ⟨Br,hi,?_,FF Br⟩;rw [zAe Br];rw [u8,zAe Br] at hk;exact congrArg some hk
   ·unfold Cr at hk;rw [zDJ (by simp;omega),zC1,zEA] at hk;simp only [zDe,zEM] at hk;cases hx:h'[σ.length+(k-H.length)]? with
    | none=>rw [hx] at hk;cases hk
    | some x=>
     rw [hx] at hk;have hk:Cg σ H.length x=some o':=zCq hk;obtain ⟨o0,e0⟩:=Nv hk;subst e0;refine .inr ⟨σ.length+(k-H.length),o0,hx,hk,?_,?_⟩
     ·rw [GJ,zDJ (by rw [HR.len];omega),zEA,HR.len]
     ·unfold C1;rw [zCt (by omega)];omega
  have back: ∀ {k:Nat} {o:DO},C9 σ k=none -> H[k]? =some (some o) -> (Cr H σ h')[k]? =some (some o):=by
   intro k o hk ho;have Br:=(zCr.1 ho).1;unfold Cr;rw [zC8 (by simpa using Br),zC1,zEO Br];simp only [zDI,hk,V1 ho]
  have apart: ∀ {k:Nat} {o:DO} {p:AJ} {b:Nat},C9 σ k=none -> H[k]? =some (some o) -> ρ[k]? =some p -> p.foot b -> ¬ MO h' ρ1 b:=fun {k o p b} q1 q2 q3 q4 hm=>by
   rcases g3.grow b hm with hg | hg
   ·exact foreign q1 q2 q3 q4 hg
   ·exact absurd (HR.lt (.inr ⟨k,o,p,q2,q3,q4⟩)) (Nat.not_lt.2 hg)
  have grow: ∀ b,MO (Cr H σ h') ρ' b -> MO H ρ b∨w.heap.size<=b:=by
   rintro b ⟨k,o',p,q1,q2,q3⟩;rcases GV q1 with ⟨a1,a2,a3,a4⟩ | ⟨i,o,a1,a2,a3,a4⟩
   ·exact .inl ⟨k,o',p,a3,a4.symm.trans q2,q3⟩
   ·exact (g3.grow b ⟨i,o,p,a1,a3.symm.trans q2,q3⟩).imp (Hg b) id
  have pl: ∀ (k:Nat) (p:AJ),ρ[k]? =some p -> ρ'[k]? =some p:=fun k p hp=>by
   rw [GJ,zC8 (zCr.1 hp).1];exact hp
  have O:BV (MS N H ρ) w ρ (MS N (Cr H σ h') ρ') w' ρ':=
   ⟨fun b hb hm _=>g3.upd.block b hb fun hx=>hm (.inr (Hg b hx)),fun b hb=>hb.elim (fun hb=>.inl (.inl hb)) (fun hb=>(grow b hb).imp .inr id),pl⟩
  refine ⟨v,rfl,⟨⟨ρ',⟨?_,fun k o' hk=>?_,fun k o' p b q1 q2 q3=>?_,fun k k' o1 o2 p1 p2 b AY q1 q2 q3 q4 q5 q6=>?_,fun b hb=>⟨zCu (HR.nlt b hb).1 g3.upd.size,(HR.nlt b hb).2⟩,g1.gi⟩,d4 Pw _ wh g2,⟨g3.upd.mono fun b _ hb=>Hg b hb,grow⟩,pl⟩,g5⟩⟩
  ·rw [Yy,GJ];simp [HR.len,l1]
  ·rcases GV hk with ⟨a1,a2,a3,a4⟩ | ⟨i,o,a1,a2,a3,a4⟩
   ·obtain ⟨p,hp,hr⟩:=HR.obj k o' a3;refine ⟨p,a4.trans hp,hr.out O g3.upd (fun b hb=>.inr (Hg b hb)) fun b _ hf hs=>?_⟩;exact foreign a2 a3 hp hf hs
   ·obtain ⟨p,hp,hr⟩:=g1.obj i o a1;exact ⟨p,a3.trans hp,oX Pw (zCs.1 we _ (zDN a1)) a2 hr⟩
  ·rcases GV q1 with ⟨a1,a2,a3,a4⟩ | ⟨i,o,a1,a2,a3,a4⟩
   ·have hp:=a4.symm.trans q2;obtain ⟨c1,c2,c,t,z,c3⟩:=HR.cel k o' p b a3 hp q3;refine ⟨c1,c2,c,t,z,(g3.upd.block b (zCl.1 c3).1 fun hx=>?_).trans c3⟩;exact foreign a2 a3 hp q3 hx
   ·obtain ⟨c1,c2,c3⟩:=g1.cel i o p b a1 (a3.symm.trans q2) q3;refine ⟨c1,fun hb=>?_,c3⟩;rcases g3.grow b ⟨i,o,p,a1,a3.symm.trans q2,q3⟩ with hg | hg
    ·obtain ⟨k2,o2,p2,d1,d2,d3⟩:=Hg b hg;exact (HR.cel k2 o2 p2 b d1 d2 d3).2.1 hb
    ·exact absurd (HR.nlt b hb).1 (Nat.not_lt.2 hg)
  ·rcases GV q1 with ⟨a1,a2,a3,a4⟩ | ⟨i,o,a1,a2,a3,a4⟩
   ·rcases GV q2 with ⟨c1,c2,c3,c4⟩ | ⟨i',o',c1,c2,c3,c4⟩
    ·exact HR.dis k k' o1 o2 p1 p2 b AY a3 c3 (a4.symm.trans q3) (c4.symm.trans q4) q5 q6
    ·exact apart a2 a3 (a4.symm.trans q3) q5 ⟨i',o',p2,c1,c3.symm.trans q4,q6⟩
   ·rcases GV q2 with ⟨c1,c2,c3,c4⟩ | ⟨i',o',c1,c2,c3,c4⟩
    ·exact apart c2 c3 (c4.symm.trans q4) q6 ⟨i,o,p1,a1,a3.symm.trans q3,q5⟩
    ·refine g1.dis i i' o o' p1 p2 b ?_ a1 c1 (a3.symm.trans q3) (c3.symm.trans q4) q5 q6;rintro rfl;exact AY (a4.trans c4.symm)
end
theorem Kf.own {h:DH} {σ:List Nat} {j:Nat} {f:Int -> List Int} {x:Int} {L:List Int} {g:Bool} (hk:h[j]? =some (some (.mo (.rows f (some (x,L,g)))))) (hj:σ.contains j=false):Kf h σ (.mri j 1) (.ints L):=by
 rintro P Γ N ρ w v H ⟨p,vs,hp,Fv,Cc⟩;obtain ⟨p',A2,u,es,AX,hA⟩:=H.obj j _ hk;have:p'=p:=zCq (A2.symm.trans hp);subst this;have e: #[Value.map (some p'.blk),u]=vs:=by have:=hA.val.symm.trans Fv;cases this;rfl
 subst e;have ev:v=u:=by simpa using Cc.symm
 subst ev;rcases (hA.inHand x L g rfl).1 with ⟨rfl,rfl⟩ | ⟨q,cap,rfl,h1,h2,h3,h4,h5⟩
 ·exact ⟨none,0,rfl,zC6 _,zD0 _,fun j hj=>absurd hj (zCz j)⟩
 ·refine ⟨_,cap,rfl,h1,h3,fun i hi=>⟨q.blk,q.off,rfl,?_,?_⟩⟩
  ·rintro ⟨k,o,p2,g1,g2,g3,g4⟩;refine H.dis k j o _ p2 p' q.blk (fun e=>?_) g2 hk g3 hp g4 h4.1;subst e;have:=zEH.2 g1;rw [this] at hj;cases hj
  ·obtain ⟨u,e1,e2⟩:=Ab.cell h5 hi;rw [e1,e2]
def U5 (H:DH) (σ:List Nat):List DV -> List DV -> Prop
 | [],[]=>True
 | d1::EL,d::ds=>(d1=up σ H.length d∨Kf H σ d1 d)/\ U5 H σ EL ds
 | _,_=>False
theorem Ys {H:DH} {σ:List Nat}: ∀ {EL ds:List DV},U5 H σ EL ds -> EL.length=ds.length/\ ∀ i,i<ds.length -> EL.getD i .any=up σ H.length (ds.getD i .any)∨Kf H σ (EL.getD i .any) (ds.getD i .any)
 | [],[],_=>⟨rfl,fun i hi=>absurd hi (zCz i)⟩
 | d1::EL,d::ds,⟨h1,h2⟩=>by
  obtain ⟨g1,g2⟩:=Ys h2;refine ⟨by simp [g1],fun i hi=>?_⟩;cases i with
  | zero=>exact h1
  | succ i=>exact g2 i (by simpa using hi)
 | [],_::_,h=>h.elim
 | _::_,[],h=>h.elim
theorem ES.embedSB {P:Program} {Γ:A1} {f:Nat} {ds:List DV} {h:DH} {d:DV} {h':DH} {ext:Bool} (DS:ES P Γ f ds h d h' ext) (σ:List Nat) (H:DH) {EL:List DV} (ha:U5 H σ EL ds) (hb:Ik σ H.length h.length h'.length=true) (hh:(σ.map fun k=>H.getD k none)=h.map (Cg σ H.length)) (hs:(ID d&&h'.all QJ)=true):
 ES P Γ f EL H (up σ H.length d) (Cr H σ h') ext:=by
 simp only [Ik,zCp,zDH,zCs] at hb;rw [zCp] at hs;exact DS.embedS σ H hb.1.1.1 (fun k hk=>hb.1.1.2 k hk) hb.1.2 hb.2 hh (Ys ha).1 (Ys ha).2 hs.1 hs.2
end Go.Proofs.YtgkhhfnhacibcaaGreatDoor
namespace Go.Proofs.YtgkhhfnhacibcaaGreatDoor
open Go.RowKit
structure HX (F:Fence) (P:Program):Prop where
 f:D4 F P
 m:P.follows .mixedOrders=true
structure HS (c:List (DV×DH×Bool)) (o:List (Nat×DV)) (z:List (Nat×Fz)) (v:List Prop):Prop where
 all:Bm v
section
variable {P:Program} {Γ:A1} {cs:List (DV×DH×Bool)} {os:List (Nat×DV)} {zs:List (Nat×Fz)} {vs:List Prop}
theorem H0:HS [] [] [] []:=⟨trivial⟩
theorem HS.add (q:HS cs os zs vs) {c':List (DV×DH×Bool)} {o':List (Nat×DV)} {z':List (Nat×Fz)} {p:Prop} (h:p):HS c' o' z' (vs++[p]):=⟨Cz.2 ⟨q.all,h,trivial⟩⟩
theorem HS.o (q:HS cs os zs vs) (t:Nat) {d d':DV} (x:AQ d d'):HS cs (os++[(t,d')]) zs (vs++[AQ d d']):=q.add x
theorem HS.b (q:HS cs os zs vs) (t:Nat) {a b:Bool} (x:a=b):HS cs (os++[(t,.bool b)]) zs (vs++[AQ (.bool a) (.bool b)]):=q.add (AQ.bool x)
theorem HS.w (q:HS cs os zs vs) (t:Nat) {x:Int} (h:AI x):HS cs (os++[(t,.int .i64 x)]) zs (vs++[AQ (.int .i64 (IntKind.i64.wrap x)) (.int .i64 x)]):=q.add (m7 h)
theorem HS.g (q:HS cs os zs vs) {p:Prop} (x:p):HS cs os zs (vs++[p]):=q.add x
theorem HS.t (q:HS cs os zs vs):HS cs os zs (vs++[True]):=q.add trivial
theorem HS.c (q:HS cs os zs vs) {f:Nat} {ds:List DV} {h:DH} {d:DV} {h':DH} {e:Bool} (x:ES P Γ f ds h d h' e):HS (cs++[(d,h',e)]) os zs (vs++[ES P Γ f ds h d h' e]):=q.add x
theorem HS.q (q:HS cs os zs vs) {f:Nat} {ds:List DV} {h:DH} {d:DV} {h':DH} {k:Nat} (x:Np P Γ f ds h d h' k):HS (cs++[(d,h',false)]) os zs (vs++[Np P Γ f ds h d h' k]):=q.add x
theorem HS.a (q:HS cs os zs vs) (t k m:Nat) {n n':Nat} {f f':Nat -> Nat -> DV} (x:n=n'/\ ∀ i j,i<n -> j<m -> AQ (f i j) (f' i j)):HS cs os (zs++[(t,.arr k n' f')]) (vs++[n=n'/\ ∀ i j,i<n -> j<m -> AQ (f i j) (f' i j)]):=q.add x
theorem HS.z (q:HS cs os zs vs) (t k:Nat):HS cs os (zs++[(t,.frz k)]) vs:=⟨q.all⟩
theorem HS.u (q:HS cs os zs vs) (t k:Nat):HS cs os (zs++[(t,.unf k)]) vs:=⟨q.all⟩
theorem HS.k (q:HS cs os zs vs) (t:Nat):HS cs os (zs++[(t,.rws)]) vs:=⟨q.all⟩
end
theorem ES.emC {P:Program} {Γ:A1} {f:Nat} {ds:List DV} {h:DH} {d:DV} {h':DH} {ext:Bool} (DS:ES P Γ f ds h d h' ext) (σ:List Nat) (H:DH) (hb:Ik σ H.length h.length h'.length=true) (hh:(σ.map fun k=>H.getD k none)=h.map (Cg σ H.length)):ES P Γ f (ds.map (up σ H.length)) H (up σ H.length d) (Cr H σ h') ext:=
 DS.embedB σ H hb hh rfl
def frzL:List Nat -> St -> Option (St×List Prop)
 | [],S=>some (S,[])
 | k::ks,S=>match SL k S with
  | some (S',vs)=>match frzL ks S' with
   | some (Cs,BY)=>some (Cs,vs++BY)
   | none=>none
  | none=>none
theorem BO.frzL {L:Nat}: ∀ (ks:List Nat) {S S':St} {vs:List Prop},Proofs.YtgkhhfnhacibcaaGreatDoor.frzL ks S=some (S',vs) -> Bm vs -> BO L S S'
 | [],S,S',vs,h,_=>by cases h;exact BO.refl L S
 | k::ks,S,S',vs,h,hv=>by
  simp only [Proofs.YtgkhhfnhacibcaaGreatDoor.frzL] at h;split at h
  ·rename_i S1 Cw h1;split at h
   ·rename_i S2 FS h2;cases h;obtain ⟨BZ,CG⟩:=Cz.1 hv;exact (BO.frzE k S1 Cw h1 BZ).trans (BO.frzL ks h2 CG)
   ·cases h
  ·cases h
abbrev W7:=List Prop×List Prop×List (DV×DH×Bool)×List (Nat×DV)×Bool
def OM (σ:List Nat) (L:Nat) (w:List Prop) (r:KO×St×List Prop×Bz):W7:=(r.2.2.1,w,r.2.2.2.calls,r.2.2.2.co,Jn σ L r.2.1.h.length)
def LE (live σ:List Nat) (L:Nat) (ks:List Nat) (r:KO×St×List Prop×Bz):Option (KO×List DV×DH×W7):=match frzL ks (comp live σ r.2.1) with
 | some (S,w)=>some (r.1,S.fr,S.h,OM σ L w r)
 | none=>none
def iQ:KO -> Option Exit
 | .ret=>some .ret
 | .at []=>some .normal
 | .at (.code (.exit i)::k)=>if (IP i k).isNone then some (.exit i) else none
 | _=>none
def JB (P:Program) (live σ:List Nat) (L:Nat) (ks:List Nat) (fn:Func) (d:DV) (l2:Nat) (r:KO×St×List Prop×Bz):Option (Bool×List DV×DH×W7):=match frzL ks (comp live σ r.2.1) with
 | some (S,w)=>match OI P S fn.results.toList with
  | some rs=>some ((match r.1 with | .ret=>true | .at []=>true | _=>false)&&(decide (S.h.length<=l2)||(S.h.all Yg&&G5 d&&decide (L<=S.h.length))),rs,(if S.h.length<=l2 then S.h else (Fg (List.range L) S).h),OM σ L w r)
  | none=>none
 | none=>none
def YT (σ:List Nat) (L:Nat) (r:KO×St×List Prop×Bz):Option Exit×DH×W7:=(iQ r.1,(comp [] σ r.2.1).h,OM σ L [] r)
section
variable {P:Program} {Γ:A1} {F:Fence} {B:Option Nat} {L:Nat} {Y N:Bi P Γ L} {Q:QY P Γ L} {k k':List KI} {S:St} {fr:List DV} {h' h2:DH} {c:List (DV×DH×Bool)} {o:List (Nat×DV)} {z:List (Nat×Fz)} {v w:List Prop}
theorem tN {live σ ks:List Nat} {r:KO×St×List Prop×Bz} {r1:KO} (h:LE live σ L ks r=some (r1,fr,h',v,w,[],[],true)) (hw:Bm w):r.1=r1/\ r.2.2.1=v/\ BO L r.2.1 ⟨fr,h'⟩:=by
 unfold LE at h;split at h
 ·rename_i S1 w1 hf;simp only [OM,zDm,zD7] at h;obtain ⟨rfl,rfl,rfl,rfl,rfl,_,_,hs⟩:=h;exact ⟨rfl,rfl,(BO.comp live σ r.2.1 hs).trans (BO.frzL ks hf hw)⟩
 ·cases h
theorem BU.gS (hX:HX F P) (Ax:Bb) (n:Nat) (live σ:List Nat) (tg:List (List (Nat×Nat)×St)) (hl:HS c o z v) (ks:List Nat) (hz:HS [] [] [] w) (k':List KI) (fr:List DV) (h':DH)
 (h:(B5 P Γ Ax n k S ⟨c,o,z,tg⟩).bind (LE live σ L ks)=some (.at k',fr,h',v,w,[],[],true)) (hc:IT k'=true) (hk:Av P Γ F B L Y Q k' ⟨fr,h'⟩):Av P Γ F B L Y Q k S:=by
 cases hr:B5 P Γ Ax n k S ⟨c,o,z,tg⟩ with
 | none=>rw [hr] at h;cases h
 | some r=>
  obtain ⟨r1,S1,v1,o1⟩:=r;rw [hr] at h;obtain ⟨e1,e2,hs⟩:=tN (r:=(r1,S1,v1,o1)) h hz.all;have e1:r1= .at k':=e1;have e2:v1=v:=e2;subst e1 e2;exact FI hX.f hX.m n k S _ _ _ _ _ hr hl.all (BU.le hs hc hk)
theorem BU.el (hX:HX F P) {fn:Func} {d:DV} (Ax:Bb) (n:Nat) (live σ:List Nat) (tg:List (List (Nat×Nat)×St)) (hl:HS c o z v) (ks:List Nat) (hz:HS [] [] [] w) (rs:List DV) (le:AQ (I1 rs) d)
 (h:(B5 P Γ Ax n k S ⟨c,o,z,tg⟩).bind (JB P live σ L ks fn d h2.length)=some (true,rs,h2,v,w,[],[],true)):BU P Γ F B L N (F3 P fn L d h2) k S:=by
 cases hr:B5 P Γ Ax n k S ⟨c,o,z,tg⟩ with
 | none=>rw [hr] at h;cases h
 | some r=>
  obtain ⟨r1,S1,v1,o1⟩:=r;rw [hr] at h;have h:JB P live σ L ks fn d h2.length (r1,S1,v1,o1)=some (true,rs,h2,v,w,[],[],true):=h;unfold JB at h;split at h
  ·rename_i S2 w1 hf;split at h
   ·rename_i qz Vd;simp only [OM,zDm,zD7,zCp] at h;obtain ⟨⟨wo,hq⟩,rfl,hh,rfl,rfl,_,_,hs⟩:=h;have hS:BO L S1 S2:=(BO.comp live σ S1 hs).trans (BO.frzL ks hf hz.all)
    have fin: ∀ e,(e= .normal∨e= .ret) -> F3 P fn L d h2 e S1:=fun e he=>by
     refine F3.le hS ⟨he,S2,BO.refl _ _,qz,Vd,?_⟩
     by_cases Ah:S2.h.length<=h2.length
     ·rw [zB3 Ah] at hh;exact .inl ⟨le,hh⟩
     ·rw [zCt Ah] at hh;simp only [Ah,decide_false,zEC,zCp,zDH] at hq;exact .inr ⟨gh hq.1.1,le,OS hq.1.2,hq.2,hh⟩
    refine FI hX.f hX.m n k S _ _ _ _ _ hr hl.all ?_;rcases r1 with (_ | ⟨_,_⟩) | _
    ·exact ⟨rfl,fin _ (.inl rfl)⟩
    ·cases wo
    ·exact ⟨rfl,fin _ (.inr rfl)⟩
   ·cases h
  ·cases h
theorem BU.e (hX:HX F P) {fn:Func} {d:DV} (Ax:Bb) (n:Nat) (live σ:List Nat) (tg:List (List (Nat×Nat)×St)) (hl:HS c o z v) (ks:List Nat) (hz:HS [] [] [] w)
 (h:(B5 P Γ Ax n k S ⟨c,o,z,tg⟩).bind (fun r=>(JB P live σ L ks fn d h2.length r).map fun q=>(q.1,I1 q.2.1,q.2.2))=some (true,d,h2,v,w,[],[],true)):BU P Γ F B L N (F3 P fn L d h2) k S:=by
 cases hr:B5 P Γ Ax n k S ⟨c,o,z,tg⟩ with
 | none=>rw [hr] at h;cases h
 | some r=>
  rw [hr] at h;have h:(JB P live σ L ks fn d h2.length r).map (fun q=>(q.1,I1 q.2.1,q.2.2))=some (true,d,h2,v,w,[],[],true):=h;cases hq:JB P live σ L ks fn d h2.length r with
  | none=>rw [hq] at h;cases h
  | some q=>
   obtain ⟨q1,rs,q3⟩:=q;rw [hq] at h;simp only [zDI,zDm,zD7] at h;obtain ⟨rfl,hd,rfl⟩:=h;exact BU.el hX Ax n live σ tg hl ks hz rs (AQ.of_eq hd) (by rw [hr];exact hq)
theorem BU.r (hX:HX F P) {ex:List Exit} {i:Nat} {e:Exit} (Ax:Bb) (n:Nat) (σ:List Nat) (tg:List (List (Nat×Nat)×St)) (hl:HS c o z v) (he:(Exit.normal::ex)[i]? =some e)
 (h:(B5 P Γ Ax n k S ⟨c,o,z,tg⟩).map (YT σ L)=some (some e,h2,v,[],[],[],true)):BU P Γ F B L N (DT L ex i h2) k S:=by
 cases hr:B5 P Γ Ax n k S ⟨c,o,z,tg⟩ with
 | none=>rw [hr] at h;cases h
 | some r=>
  obtain ⟨r1,S1,v1,o1⟩:=r;rw [hr] at h;simp only [zDI,YT,OM,zDm,zD7] at h;obtain ⟨hk,hh,rfl,_,_,_,hs⟩:=h;have fin:stay N (DT L ex i h2) e S1 N:=⟨rfl,he,_,BO.comp [] σ S1 hs,hh⟩;refine FI hX.f hX.m n k S _ _ _ _ _ hr hl.all ?_;unfold iQ at hk;split at hk
  ·cases hk;exact fin
  ·cases hk;exact fin
  ·rename_i i' k';split at hk
   ·rename_i hp;cases hk;exact Tr.exit (PM fin k' (Option.isNone_iff_eq_none.1 hp))
   ·cases hk
  ·cases hk
theorem GR.g (hX:HX F P) {Q:Exit -> St -> Prop} {assign body:Code} (Ax:Bb) (n:Nat) (live σ:List Nat) (hl:HS c o z v) (fr:List DV) (h':DH)
 (h:(B5 P Γ Ax n [.code assign] S ⟨c,o,z,[]⟩).map (Q7 live σ L)=some (.at [],fr,h',v,[],[],true)) (hk: ∀ N2:Bi P Γ L,BU P Γ F B L N2 Q [.code body] ⟨fr,h'⟩):GR P Γ F B L N Q assign body S:=
 GR.go hX.f hX.m Ax n _ live σ fr h' v h hl.all hk
end
section
variable {P:Program} {Γ:A1} {L:Nat} {k:List KI} {S:St} {c:List (DV×DH×Bool)} {o:List (Nat×DV)} {z:List (Nat×Fz)} {v:List Prop}
theorem TrI.e {C:DI P Γ} {Y:Bi P Γ L} (hX:HX Fence.wide P) (Ax:Bb) (n:Nat) (hl:HS c o z v)
 (h:(B5 P Γ Ax n k S ⟨c,o,z,[]⟩).map (fun r=>((match r.1 with | .ret=>true | .at []=>true | _=>false),r.2.2.1))=some (true,v)) (hY:Y=C.Y L C.encs.length∨Y=C.X L):Av P Γ Fence.wide none L Y (C.Q L) k S:=by
 cases hr:B5 P Γ Ax n k S ⟨c,o,z,[]⟩ with
 | none=>rw [hr] at h;cases h
 | some r=>
  obtain ⟨r1,S1,Cw,o1⟩:=r;rw [hr] at h;simp only [zDI,zDm,zD7] at h;obtain ⟨h1,rfl⟩:=h;refine FI hX.f hX.m n k S _ _ _ _ _ hr hl.all ?_;rcases r1 with (_ | ⟨_,_⟩) | _
  ·exact ⟨.inl rfl,hY⟩
  ·cases h1
  ·exact ⟨.inr rfl,hY⟩
theorem Av.y {C:DI P Γ} {i:Nat} {Q:QY P Γ L} {K:List KI} {ops:Array Oper} (hX:HX Fence.wide P) (p:Nat) (live σ:List Nat) (hl:HS c o z v) {x:Array Value} (PI:List DV) (hT:DH) (PJ:List DV) (hE:DH)
 (hK:MT K=some (ops,ER K)) (A5:EB ops=true) (h:(L5 P Γ ops p S ⟨c,o,z,[]⟩).map (YS live σ L)=some (x.toList,C.l,PI,hT,PJ,hE,v,true)) (hx:C.encs[i]? =some x) (hc:IT (ER K)=true) (aB:Av P Γ Fence.wide none L (C.Y L (i+1)) Q (ER K) ⟨PI,hT⟩) (aC:Av P Γ Fence.wide none L (C.X L) Q (ER K) ⟨PJ,hE⟩):Av P Γ Fence.wide none L (C.Y L i) Q K S:=
 Av.yieldAt hX.f hK A5 p _ live σ PI hT PJ hE v h hl.all hx hc aB aC
theorem Av.yE {C:DI P Γ} {i:Nat} {K:List KI} {ops:Array Oper} (hX:HX Fence.wide P) (p:Nat) (hl:HS c o z v) {x:Array Value} (hK:MT K=some (ops,[])) (A5:EB ops=true)
 (h:(L5 P Γ ops p S ⟨c,o,z,[]⟩).map (fun r=>(r.1,r.2.1,r.2.2.2.2))=some (x.toList,C.l,v)) (hx:C.encs[i]? =some x) (hd:i+1=C.encs.length):Av P Γ Fence.wide none L (C.Y L i) (C.Q L) K S:=by
 unfold MT at hK;split at hK
 ·cases hK;cases hr:L5 P Γ ops p S ⟨c,o,z,[]⟩ with
  | none=>rw [hr] at h;cases h
  | some r=>
   obtain ⟨xs,l,ST,SF,Cw⟩:=r;rw [hr] at h;simp only [zDI,zDm,zD7] at h;obtain ⟨rfl,rfl,rfl⟩:=h;exact Tr.yield hX.f A5 hr hl.all hx ⟨.inl rfl,.inl (by rw [hd])⟩ ⟨.inl rfl,.inr rfl⟩
 ·cases hK
end
section
variable {P:Program} {Γ:A1} {F:Fence} {B L:Nat} {Y:Bi P Γ L} {Q:QY P Γ L} {fr:List DV} {h:DH} {K:List KI} {a b:Code} {α σ:Type} {l:List α} {H:σ -> DH} {FR:α -> List DV}
theorem BU.rg (If:F=Fence.wide∨∃ l,F=Fence.wide.inRound l) (ex:List Exit) (JS:(ex.all fun e=>(KT e).isSome)=true) (kk t:Nat) (ps:Array Tmp) (enc:α -> Array Value) (L':Nat) {f:α -> σ -> Option (σ×Nat)} {s0:σ} {rE:σ×Nat} (hf:Em f l s0=some rE)
 (Dn: ∀ (l B:Nat) (N:Bi P Γ L') (x:α) (s:σ) (r:σ×Nat),f x s=some r -> GR P Γ (Fence.wide.inRound l) (some B) L' N (DT L' ex r.2 (H r.1)) a b ⟨FR x,H s⟩)
 (hK:MR K=some (.tmp t,ps,a,b,ER K)) (hg:Aa fr (.tmp t)= .it kk) (hk:h[kk]? =some (some (.iter (l.map enc)))) (EF: ∀ x,(enc x).size=ps.size) (hL:Nat.ble L L'=true) (GO:fr.all (GX L')=true) (h0:h.set kk none=H s0) (Dx:(fun x=>Jp fr ps.toList (enc x).toList)=FR)
 (Ea: ∀ e,(Exit.normal::ex)[rE.2]? =some e -> Dp P Γ F (some B) L Q (ER K) e ⟨fr,H rE.1⟩ Y):Av P Γ F (some B) L Y Q K ⟨fr,h⟩:=
 BU.rangeAt If ex JS (.tmp t) ps a b (ER K) enc l H FR f hf hK hg hk EF L' hL GO h0 Dx Dn Ea
theorem BU.rg0 (If:F=Fence.wide∨∃ l,F=Fence.wide.inRound l) (kk t:Nat) (ps:Array Tmp) (enc:α -> Array Value) (L':Nat) {f:α -> σ -> Option σ} {s0 sE:σ} (hf:B6 f l s0=some sE)
 (Dn: ∀ (l B:Nat) (N:Bi P Γ L') (x:α) (s r:σ),f x s=some r -> GR P Γ (Fence.wide.inRound l) (some B) L' N (DT L' [] 0 (H r)) a b ⟨FR x,H s⟩)
 (hK:MR K=some (.tmp t,ps,a,b,ER K)) (hg:Aa fr (.tmp t)= .it kk) (hk:h[kk]? =some (some (.iter (l.map enc)))) (EF: ∀ x,(enc x).size=ps.size) (hL:Nat.ble L L'=true) (GO:fr.all (GX L')=true) (h0:h.set kk none=H s0) (Dx:(fun x=>Jp fr ps.toList (enc x).toList)=FR)
 (Ea:Av P Γ F (some B) L Y Q (ER K) ⟨fr,H sE⟩):Av P Γ F (some B) L Y Q K ⟨fr,h⟩:=
 BU.rangeAt0 If (.tmp t) ps a b (ER K) enc l H FR f hf hK hg hk EF L' hL GO h0 Dx Dn Ea
end
end Go.Proofs.YtgkhhfnhacibcaaGreatDoor
namespace Go.Proofs.YtgkhhfnhacibcaaGreatDoor
abbrev zCm:=@decide_eq_true
abbrev zDK:=@List.mem_cons_of_mem
abbrev zFL:=@List.mem_of_mem_erase
end Go.Proofs.YtgkhhfnhacibcaaGreatDoor
namespace Go.Proofs.YtgkhhfnhacibcaaGreatDoor
open Go.RowKit
abbrev LK:=Nat×Array MapEntry×Nat
theorem uZ {i:Nat}:U6 none i:=fun _ h=>by cases h
theorem uY {i j:Nat} {g:LK} (h:i≠j):U6 (some (i,g)) j:=fun y e=>by cases e;exact h
def He {R:Type} [DecidableEq R] (rem:KS) (a:Option R) (f:List Int -> Option R):Option R:=match rem with
 | []=>a
 | x::r=>match f x with
  | none=>none
  | some v=>if r.all (fun y=>decide (f y=some v)) then some v else none
theorem Ut {R:Type} [DecidableEq R] {rem:KS} {a:Option R} {f:List Int -> Option R} {r:R} (h:He rem a f=some r):(rem= [] -> a=some r)/\ ∀ y∈rem,f y=some r:=by
 cases rem with
 | nil=>exact ⟨fun _=>h,fun y hy=>absurd hy zEP⟩
 | cons x l=>
  refine ⟨fun e=>absurd e (List.cons_ne_nil x l),?_⟩;unfold He at h;simp only at h;cases hx:f x with
  | none=>rw [hx] at h;cases h
  | some v=>
   rw [hx] at h;simp only at h;split at h
   ·rename_i hc;cases h;intro y hy;rcases zDF.1 hy with rfl | hy
    ·exact hx
    ·exact zEE (zCs.1 hc y hy)
   ·cases h
theorem gR {R:Type} [DecidableEq R] {a:Option R} {f:List Int -> Option R}:He [] a f=a:=rfl
theorem tX {R:Type} [DecidableEq R] {rem:KS} {a:Option R} {f:List Int -> Option R} {r:R} (hn:rem≠[]) (h: ∀ y∈rem,f y=some r):He rem a f=some r:=by
 cases rem with
 | nil=>exact absurd rfl hn
 | cons x l=>
  unfold He;simp only [h x (by simp)];rw [zB3];exact zCs.2 fun y hy=>zCm (h y (by simp [hy]))
theorem qo {P:Program} {w:World} {r bm IE c0 AX:Nat} {seen:Array Nat} {es:Array MapEntry} (hr:w.heap[r]? =some (.mapIter (some bm) IE seen c0)) (hb:w.heap[bm]? =some (.map es AX)) (LV: ∀ x∈es.toList,x.born<IE) (wi:IE<=c0) (ty:TypeId):
 ((leftOf es seen).size=0/\ (Instr.next (.pointer (some ⟨r,0,none⟩)) false ty).run P w= .ok (.tuple #[.bool false]) w)∨
 ∃ e∈(leftOf es seen).toList,∃ w1:World,(w1=w∨w1=w.drew)/\ (Instr.next (.pointer (some ⟨r,0,none⟩)) false ty).run P w= .ok (.tuple #[.bool true,e.key,e.val]) { w1 with heap:=w1.heap.setIfInBounds r (.mapIter (some bm) IE (seen.push e.born) AX) }:=by
 simp only [Instr.next,getObj,zC3,Sem.run,hr,hb,Result.andThen,next_test_false seen es IE c0 LV wi,zDU,zER];unfold leftOf;have CD: ∀ x∈(Array.filter (fun e=>!seen.contains e.born) es).toList,x.born<IE:=fun x hx=>LV x (by simp at hx ⊢;exact hx.1)
 generalize Array.filter (fun e=>!seen.contains e.born) es=L at CD ⊢
 have e1:L.filter (fun x=>decide (x.born<IE))=L:=Array.filter_eq_self.2 (fun x hx=>by simpa using CD x (by simpa using hx))
 have e2:L.filter (fun x=>decide (x.born>=IE))= #[]:=by
  rw [Array.filter_eq_empty_iff];intro x hx;have:=CD x (by simpa using hx);simp;omega
 simp only [e1,e2,Array.append_empty]
 by_cases h0:L.size=0
 ·left;have:L= #[]:=zEf h0;subst this;refine ⟨rfl,?_⟩;simp [choose,Sem.run,Question.forced]
 ·right;have AY:L.isEmpty=false:=by simp [Array.isEmpty,h0]
  simp only [AY,zDU,zER,Array.empty_append,Array.size_map]
  have Vt: ∃ (j:Nat) (w1:World),j<L.size/\ (w1=w∨w1=w.drew)/\ (choose (Question.mapNext L.size)).run P w= .ok j w1:=by
   by_cases hf:L.size<=1
   ·exact ⟨0,w,by omega,.inl rfl,by simp [choose,Sem.run,Question.forced,hf]⟩
   ·exact ⟨_,w.drew,zFY _ (by omega),.inr rfl,by
     simp only [choose,Sem.run,Question.forced,zDH,hf,zER,Question.cut];rfl⟩
  obtain ⟨j,w1,hj,NK,Oo⟩:=Vt;have KD:w1.heap[r]? =some (.mapIter (some bm) IE seen c0):=by rcases NK with rfl | rfl <;> exact hr
  refine ⟨L[j],by simp,w1,NK,?_⟩;simp only [Oo,Array.getElem?_map,zDQ hj,zDI,zC3,setObj,Sem.run,KD,Result.andThen];rfl
section
variable {P:Program} {Γ:A1} {N:Nat -> Prop} {S:St} {ρ:List AJ} {a:Act} {w:World} {F:Fence} {B:Option Nat} {L:Nat} {Y:Bi P Γ L} {Q:QY P Γ L}
theorem Ac.setMo (R:Ac P Γ N S ρ a w) {k:Nat} {x x':MX} {p:AJ} (hk:S.h[k]? =some (some (.mo x))) (hp:ρ[k]? =some p) (hO:Ly w p x') (hc: ∀ b,p.foot b -> DW w b):
 Ac P Γ N ⟨S.fr,S.h.set k (some (.mo x'))⟩ ρ a w/\ BH S.h ρ w (S.h.set k (some (.mo x'))) ρ w:=
 ⟨⟨R.hr.write hk hp (AO.refl _ _) hc hO,R.fr.out (BV.write trivial hk hp (AO.refl p.foot w))⟩,BH.write hk hp (AO.refl _ _)⟩
theorem E7.relock {p:AJ} {n:Nat} {ls:List (Option KS)} {vs:Array Value} (hS:E7 w p n ls none vs) {i:Nat} (hi:(ls.getD i none).isSome=true): ∃ g:LK,E7 w p n ls (some (i,g)) vs:=by
 obtain ⟨mb,g1,g2,g3,es,AX,g4,_⟩:=hS.has i _ (PF hi);refine ⟨(mb,es,AX),{ hS with has:=fun j l hl=>?_ }⟩
 by_cases e:j=i
 ·subst e;have:l=(ls.getD j none).getD []:=by have:=PF hi;rw [hl] at this;exact zCq (zCq this)
  subst this;exact ⟨mb,g1,g2,g3,es,AX,g4,fun x hx _=>by cases hx;rfl⟩
 ·obtain ⟨b,k1,k2,k3,Hv,c1,k4,_⟩:=hS.has j l hl;exact ⟨b,k1,k2,k3,Hv,c1,k4,fun x hx hj=>by cases hx;exact absurd hj.symm e⟩
theorem E7.unlock {p:AJ} {n:Nat} {ls:List (Option KS)} {lk:Option (Nat×LK)} {vs:Array Value} (hS:E7 w p n ls lk vs):E7 w p n ls none vs:=
 { hS with has:=fun j l hl=>let ⟨b,k1,k2,k3,Hv,c1,k4,_⟩:=hS.has j l hl;⟨b,k1,k2,k3,Hv,c1,k4,fun x hx=>by cases hx⟩ }
theorem Tr.lock {c:Code} {j i n:Nat} {ls:List (Option KS)} (hk:S.h[j]? =some (some (.mo (.sets n ls none)))) (hi:(ls.getD i none).isSome=true) (H: ∀ g:LK,Tr P Γ F B L Y c ⟨S.fr,S.h.set j (some (.mo (.sets n ls (some (i,g)))))⟩ Q):Tr P Γ F B L Y c S Q:=fun N ρ a w R y m b=>by
 obtain ⟨p,hp,vs,hS⟩:=R.hr.obj j _ hk;obtain ⟨g,Lb⟩:=hS.relock hi;obtain ⟨R',st⟩:=R.setMo hk hp (x':=.sets n ls (some (i,g))) ⟨vs,Lb⟩ fun b hb=>hS.lies hb
 exact H g N ρ a w R' (Y.st y R.hr R'.hr st (Ef.refl _ _)) m b
def iZ:List KI -> Bool
 | .code _::_=>true
 | _=>false
theorem BU.lock {K:List KI} {fr:List DV} {h:DH} (j i n:Nat) {ls:List (Option KS)} (hk:h[j]? =some (some (.mo (.sets n ls none)))) (hi:(ls.getD i none).isSome=true) (hK:iZ K=true) (h':LK -> DH) (he:h'=fun g=>h.set j (some (.mo (.sets n ls (some (i,g)))))) (H: ∀ g:LK,Av P Γ F B L Y Q K ⟨fr,h' g⟩):Av P Γ F B L Y Q K ⟨fr,h⟩:=by
 subst he;unfold iZ at hK;split at hK
 ·exact Tr.lock (S:=⟨fr,h⟩) hk hi H
 ·cases hK
theorem tz (R:Ac P Γ N S ρ a w) {m j n n' i:Nat} {ls:List (Option KS)} {g:LK} {rem:KS} {En:Option (List Int)} (hm:S.h[m]? =some (some (.mo (.mit n g.1 g.2.1 g.2.2 rem En)))) (hj:S.h[j]? =some (some (.mo (.sets n' ls (some (i,g)))))) (hi:(ls.getD i none).isSome=true) {v:Value} (hv:AK (MS N S.h ρ) w (.it m) ρ v) (ty:TypeId):
 (rem= []/\ (Instr.next v false ty).run P w= .ok (.tuple #[.bool false]) w)∨∃ y∈rem,∃ (k u:Value) (w':World) (p:AJ),(Instr.next v false ty).run P w= .ok (.tuple #[.bool true,k,u]) w'/\ ρ[m]? =some p/\ AO p.foot w w'/\ Ly w' p (.mit n g.1 g.2.1 g.2.2 (rem.erase y) (some y))/\ ∀ b,p.foot b -> DW w' b:=by
 obtain ⟨p,hp,rfl⟩:=hv;obtain ⟨p',A2,h0,h1,h2,seen,h3,h4,h5⟩:=R.hr.obj m _ hm;have:p'=p:=zCq (A2.symm.trans hp);subst this;obtain ⟨q,hq,vs,hS⟩:=R.hr.obj j _ hj;obtain ⟨b,k1,k2,k3,Hv,Wm,k4,k5⟩:=hS.has i _ (PF hi);have k5:=k5 _ rfl rfl;obtain ⟨mb,es,AX⟩:=g
 have e3:mb=b/\ es=Hv/\ AX=Wm:=by
  have:(mb,es,AX)=(b,Hv,Wm):=k5;simpa using this
 obtain ⟨rfl,rfl,rfl⟩:=e3;simp only at h3 h4 h5;rw [h1];have LV: ∀ x∈es.toList,x.born<AX:=k4.born;rcases qo (P:=P) h3 k4.blk LV (zC6 _) ty with ⟨e1,e2⟩ | ⟨e,he,w1,Rn,e2⟩
 ·refine .inl ⟨?_,e2⟩;have:(leftOf es seen)= #[]:=zEf e1;rw [this] at h4;have:=h4.length_eq;simp at this;exact zDl this.symm
 ·have yt:e.key∈rem.map BG:=h4.mem_iff.1 (zDr.2 ⟨e,he,rfl⟩);obtain ⟨y,hy,iv⟩:=zDr.1 yt;have yp:e∈es.toList:=by simp [leftOf] at he ⊢;exact he.1
  have wn:p'.blk<w.heap.size:=(zCl.1 h3).1;have wN:w1.heap=w.heap:=by rcases Rn with rfl | rfl <;> rfl
  have hU:AO p'.foot w { w1 with heap:=w1.heap.setIfInBounds p'.blk (.mapIter (some mb) AX (seen.push e.born) AX) }:=by
   rw [h2]
   have u1:AO (fun k=>k=p'.blk) w w1:=by
    rcases Rn with rfl | rfl
    ·exact AO.refl _ _
    ·exact AO.ofExt (Ar.toDrew w)
   exact u1.trans (Px _)
  have Hp:({ w1 with heap:=w1.heap.setIfInBounds p'.blk (.mapIter (some mb) AX (seen.push e.born) AX) }:World).heap[p'.blk]? =some (.mapIter (some mb) AX (seen.push e.born) AX):=by
   show (w1.heap.setIfInBounds _ _)[_]? =_
   simp [wN,wn]
  refine .inr ⟨y,hy,e.key,e.val,_,p',e2,hp,hU,⟨fun x hx=>?_,h1,h2,seen.push e.born,Hp,?_,fun x hx=>?_⟩,fun b hb=>?_⟩
  ·rcases hx with hx | hx
   ·exact h0 x (.inl (zFL hx))
   ·have ex:y=x:=zCq hx;subst ex;exact h0 y (.inl hy)
  ·have hl:leftOf es (seen.push e.born)=(leftOf es seen).filter fun x=>x.born != e.born:=by
    unfold leftOf;rw [Array.filter_filter]
    congr 1
    funext x
    simp only [Array.contains_push,Bool.not_or];rw [Bool.and_comm];simp [bne,Bool.beq_comm]
   have A5:((leftOf es seen).toList.map (·.born)).Nodup:=by
    have:((leftOf es seen).toList.map (·.born)).Sublist (es.toList.map (·.born)):=by
     unfold leftOf;rw [Array.toList_filter];exact List.filter_sublist.map _
    exact this.nodup k4.stamps
   have ym: ∀ (l:List MapEntry),(l.map (·.born)).Nodup -> e∈l -> (l.map (·.key)).Perm (e.key::((l.filter fun x=>x.born != e.born).map (·.key))):=by
    intro l
    induction l with
    | nil=>intro _ h;cases h
    | cons x l ih=>
     intro hn hx;rw [zD8,zFA] at hn
     by_cases iw:x=e
     ·subst iw
      have:(l.filter fun y=>y.born != x.born)=l:=List.filter_eq_self.2 fun y hy=>by
       simp only [zDz,ne_eq];exact fun hc=>hn.1 (by rw [←hc];exact zDr.2 ⟨y,hy,rfl⟩)
      simp [this]
     ·have R8:e∈l:=(zDF.1 hx).resolve_left fun h=>iw h.symm
      have AY:(x.born != e.born)=true:=by
       simp only [zDz,ne_eq];exact fun hc=>hn.1 (by rw [hc];exact zDr.2 ⟨e,R8,rfl⟩)
      rw [List.filter_cons,zB3 AY,zD8,zD8];exact ((ih hn.2 R8).cons x.key).trans (List.Perm.swap e.key x.key _)
   have P1:=ym _ A5 he;rw [hl,Array.toList_filter];have P2:(rem.map BG).Perm (BG y::(rem.erase y).map BG):=(List.perm_cons_erase hy).map BG;have P3:=P1.symm.trans (h4.trans P2);rw [←iv] at P3;exact List.Perm.cons_inv P3
  ·have ex:y=x:=zCq hx;subst ex;exact ⟨e,yp,iv.symm,by simp⟩
  ·rw [h2] at hb;exact ⟨_,rfl,(),by rw [show b=p'.blk from hb];exact Hp⟩
theorem Tr.next (hF:D4 F P) {id:Nat} {ops:Array Oper} (A5:EB ops=true) {o:Oper} {rest:List Oper} (Vi:ops.toList=o::rest) {x:Operand} (ho:o.op= .next x false) (hw:Kn ops S o=some true) {m j n n' i:Nat} {ls:List (Option KS)} {g:LK} {rem:KS} {En:Option (List Int)} (hx:Aa S.fr x= .it m) (hm:S.h[m]? =some (some (.mo (.mit n g.1 g.2.1 g.2.2 rem En)))) (hj:S.h[j]? =some (some (.mo (.sets n' ls (some (i,g)))))) (jN:m≠j) (hi:(ls.getD i none).isSome=true)
 (h0:rem= [] -> ∃ S' vs o0 o',E2 P Γ ops rest ⟨D9 S.fr o.dst (.tup 1 (L1 [.bool false])),(S.h.set j (some (.mo (.sets n' ls none)))).set m none⟩ o0=some (S',vs,o')/\ Bm vs/\ Q .normal S' Y)
 (h1: ∀ y∈rem,∃ S' vs o0 o',E2 P Γ ops rest ⟨D9 S.fr o.dst (.tup 3 (L1 [.bool true])),S.h.set m (some (.mo (.mit n g.1 g.2.1 g.2.2 (rem.erase y) (some y))))⟩ o0=some (S',vs,o')/\ Bm vs/\ Q .normal S' Y):Tr P Γ F B L Y (.region id ops false) S Q:=fun N ρ a w R y mk b=>by
 refine wpIn_region_list ?_;rw [Vi];have hd: ∀ c,o.op≠.defer c:=fun c e=>by rw [ho] at e;cases e
 have Dv: ∀ o'∈rest,o'∈ops:=fun o' G9=>by
  have:o'∈ops.toList:=by rw [Vi];exact zDK _ G9
  simpa using this
 have DD: ∀ v,(a.put o.dst v).defers=a.defers:=fun v=>by cases ho:o.dst <;> simp [Act.put]
 have rx:=Bo R x;rw [hx] at rx;unfold wpListIn;rw [zB3 (Jf R hw)];have JS:execOp a.eval o=(do pure (.value (←Instr.next (a.eval x) false o.type))):=by unfold execOp;rw [ho]
 have AL:m<S.h.length:=(zCr.1 hm).1;rcases tz R hm hj hi rx o.type with ⟨e1,e2⟩ | ⟨ky,yY,k,u,w',p,e2,hp,hU,hO,hC⟩
 ·obtain ⟨S',vs,o0,o',g1,g2,g3⟩:=h0 e1;obtain ⟨q,hq,nJ,hS⟩:=R.hr.obj j _ hj;obtain ⟨R1,N5⟩:=R.setMo hj hq (x':=.sets n' ls none) ⟨nJ,hS.unlock⟩ fun b hb=>hS.lies hb
  have R2:Ac P Γ N ⟨S.fr,(S.h.set j (some (.mo (.sets n' ls none)))).set m none⟩ ρ a w:=⟨R1.hr.kill m,R1.fr.out (BV.kill m)⟩
  have R3:=IF R2 o.dst (d:=.tup 1 (L1 [.bool false])) (v:=.tuple #[.bool false]) ⟨#[.bool false],rfl,rfl,fun jj LX=>by
   have:jj=0:=by omega
   subst this;exact ⟨_,rfl,rfl⟩⟩
  refine KV hF hd (G:=fun v w2=>v= .tuple #[.bool false]/\ w2=w) (BM.value (s:=Instr.next (a.eval x) false o.type) JS e2 ⟨rfl,rfl⟩) fun v w2 ⟨hv,Rm⟩=>?_
  subst hv Rm;refine Ld hF A5 rest Dv R3 g1 g2 fun ρ' a' w3 R' st Dy=>?_
  exact Tr.done R y mk b g3 R' ((N5.trans (BH.kill m)).trans st.st) (fun k p _ hp=>st.pl k p hp) (Dy.trans (DD _))
 ·obtain ⟨S',vs,o0,o',g1,g2,g3⟩:=h1 ky yY;have N5:=BH.write (h:=S.h) (o':=.mo (.mit n g.1 g.2.1 g.2.2 (rem.erase ky) (some ky))) hm hp hU;have R1:Ac P Γ N ⟨S.fr,S.h.set m (some (.mo (.mit n g.1 g.2.1 g.2.2 (rem.erase ky) (some ky))))⟩ ρ a w':=⟨R.hr.write hm hp hU hC hO,R.fr.out (BV.write trivial hm hp hU)⟩
  have R3:=IF R1 o.dst (d:=.tup 3 (L1 [.bool true])) (v:=.tuple #[.bool true,k,u]) ⟨#[.bool true,k,u],rfl,rfl,fun jj LX=>by
   match jj,LX with
   | 0,_=>exact ⟨_,rfl,rfl⟩
   | 1,_=>exact ⟨_,rfl,trivial⟩
   | 2,_=>exact ⟨_,rfl,trivial⟩⟩
  refine KV hF hd (G:=fun v w2=>v= .tuple #[.bool true,k,u]/\ w2=w') (BM.value (s:=Instr.next (a.eval x) false o.type) JS e2 ⟨rfl,rfl⟩) fun v w2 ⟨hv,Rm⟩=>?_
  subst hv Rm;refine Ld hF A5 rest Dv R3 g1 g2 fun ρ' a' w3 R' st Dy=>?_
  exact Tr.done R y mk b g3 R' (N5.trans st.st) (fun k p _ hp=>st.pl k p hp) (Dy.trans (DD _))
def Yb (ops:Array Oper):Operand:=match ops.toList with
 | o::_=>match o.op with
  | .next x _=>x
  | _=>.tmp 0
 | []=>.tmp 0
def Uv (ops:Array Oper):Option Tmp:=match ops.toList with
 | o::_=>o.dst
 | []=>none
def Mg (ops:Array Oper):List Oper:=ops.toList.tail
def Yc (ops:Array Oper):Bool:=match ops.toList with
 | o::_=>match o.op with
  | .next _ false=>o.guard.isNone&&EB ops
  | _=>false
 | []=>false
theorem tj {ops:Array Oper} (h:Yc ops=true):EB ops=true/\ ∃ o,ops.toList=o::Mg ops/\ o.op= .next (Yb ops) false/\ o.guard=none/\ o.dst=Uv ops:=by
 unfold Yc at h;unfold Yb Uv Mg;split at h
 ·rename_i o rest Vi;rw [Vi];split at h
  ·rename_i x ho;simp only [zCp,Option.isNone_iff_eq_none] at h;refine ⟨h.2,o,rfl,?_,h.1,rfl⟩;simp only [ho]
  ·cases h
 ·cases h
def Uo (live σ:List Nat) (L:Nat) (r:St×List Prop×Bz):List DV×DH×List Prop×Bool:=((comp live σ r.1).fr,(comp live σ r.1).h,r.2.1,Jn σ L r.1.h.length)
theorem Av.nx (hX:HX F P) {K:List KI} {ops:Array Oper} {fr:List DV} {h:DH} (hK:MT K=some (ops,ER K)) (CL:Yc ops=true) (m j i n:Nat) (ls:List (Option KS)) (g:LK) (rem:KS) (En:Option (List Int)) (live σ:List Nat) (kM:List DV) (h0:DH) (σ1:List Nat) (V8:List Int -> List DV) (h1:List Int -> DH)
 (hx:Aa fr (Yb ops)= .it m) (hm:h[m]? =some (some (.mo (.mit n g.1 g.2.1 g.2.2 rem En)))) (hj:h[j]? =some (some (.mo (.sets n ls (some (i,g)))))) (jN:m≠j) (hi:(ls.getD i none).isSome=true) (hc:IT (ER K)=true)
 (c0:(E2 P Γ ops (Mg ops) ⟨D9 fr (Uv ops) (.tup 1 (L1 [.bool false])),(h.set j (some (.mo (.sets n ls none)))).set m none⟩ ⟨[],[],[],[]⟩).map (Uo live σ L)=some (kM,h0,[],true))
 (c1: ∀ y,(E2 P Γ ops (Mg ops) ⟨D9 fr (Uv ops) (.tup 3 (L1 [.bool true])),h.set m (some (.mo (.mit n g.1 g.2.1 g.2.2 (rem.erase y) (some y))))⟩ ⟨[],[],[],[]⟩).map (Uo live σ1 L)=some (V8 y,h1 y,[],true))
 (k0:rem= [] -> Av P Γ F B L Y Q (ER K) ⟨kM,h0⟩) (k1: ∀ y∈rem,Av P Γ F B L Y Q (ER K) ⟨V8 y,h1 y⟩):Av P Γ F B L Y Q K ⟨fr,h⟩:=by
 have go: ∀ {S:St} {live σ:List Nat} {NQ:List DV} {h':DH},(E2 P Γ ops (Mg ops) S ⟨[],[],[],[]⟩).map (Uo live σ L)=some (NQ,h',[],true) -> Av P Γ F B L Y Q (ER K) ⟨NQ,h'⟩ -> ∃ S' vs o0 o',E2 P Γ ops (Mg ops) S o0=some (S',vs,o')/\ Bm vs/\ Av P Γ F B L Y Q (ER K) S':=by
  intro S live σ NQ h' NJ hk;cases hr:E2 P Γ ops (Mg ops) S ⟨[],[],[],[]⟩ with
  | none=>rw [hr] at NJ;cases NJ
  | some r=>
   obtain ⟨S1,v1,o1⟩:=r;rw [hr] at NJ;simp only [zDI,Uo,zDm,zD7] at NJ;obtain ⟨rfl,rfl,rfl,hs⟩:=NJ;exact ⟨S1,_,_,_,hr,trivial,BU.le (BO.comp live σ S1 hs) hc hk⟩
 unfold MT at hK;split at hK
 ·rename_i id tV k';have e:=zCq hK;simp only [ER,zD7,and_true] at e;subst e;obtain ⟨A5,o,q1,q2,q3,q4⟩:=tj CL;exact Tr.next (S:=⟨fr,h⟩) hX.f A5 q1 q2 (by unfold Kn;rw [q3]) hx hm hj jN hi (fun e=>by rw [q4];exact go c0 (k0 e)) (fun y hy=>by rw [q4];exact go (c1 y) (k1 y hy))
 ·cases hK
end
end Go.Proofs.YtgkhhfnhacibcaaGreatDoor
namespace Go.Proofs.YtgkhhfnhacibcaaGreatDoor
abbrev zCx:=@Nat.lt_succ_iff_lt_or_eq
abbrev zDh:=@List.mem_cons_self
end Go.Proofs.YtgkhhfnhacibcaaGreatDoor
namespace Go.Proofs.YtgkhhfnhacibcaaGreatDoor
open Go.RowKit
def Ad {R:Type} (f:Nat -> Option R) (Q:R -> Prop):Prop:=∃ N,∀ n,N<=n -> ∃ r,f n=some r/\ Q r
def Ev {R:Type} (f:Nat -> Option R) (r:R):Prop:=∃ N,∀ n,N<=n -> f n=some r
section
variable {R T:Type} {f g:Nat -> Option R} {Q Q':R -> Prop} {r:R}
theorem Ev.p (h:Ev f r) (hq:Q r):Ad f Q:=let ⟨N,h⟩:=h;⟨N,fun n hn=>⟨r,h n hn,hq⟩⟩
theorem Ad.ev (h:Ad f Q) (hu: ∀ r r',Q r -> Q r' -> r=r'): ∃ r,Q r/\ Ev f r:=by
 obtain ⟨N,h⟩:=h;obtain ⟨r,h1,h2⟩:=h N (zC6 _);refine ⟨r,h2,N,fun n hn=>?_⟩;obtain ⟨r',h3,h4⟩:=h n hn;rw [h3,hu _ _ h4 h2]
theorem Ad.mono (h:Ad f Q) (hq: ∀ r,Q r -> Q' r):Ad f Q':=let ⟨N,h⟩:=h;⟨N,fun n hn=>let ⟨r,h1,h2⟩:=h n hn;⟨r,h1,hq r h2⟩⟩
theorem Ad.step (k:Nat) (h: ∀ n,f (n+k)=g n) (hg:Ad g Q):Ad f Q:=by
 obtain ⟨N,hg⟩:=hg;refine ⟨N+k,fun n hn=>?_⟩;have:=hg (n-k) (by omega);rw [←h,show n-k+k=n by omega] at this;exact this
theorem Ev.step (k:Nat) (h: ∀ n,f (n+k)=g n) (hg:Ev g r):Ev f r:=by
 obtain ⟨N,hg⟩:=hg;refine ⟨N+k,fun n hn=>?_⟩;have:=hg (n-k) (by omega)
 rwa [←h,show n-k+k=n by omega] at this
theorem Ev.now (h: ∀ n,f n=some r):Ev f r:=⟨0,fun n _=>h n⟩
theorem Ev.eq {f g:Nat -> Option R} (h:Ev g r) (e: ∀ n,f n=g n):Ev f r:=let ⟨N,h⟩:=h;⟨N,fun n hn=>(e n).trans (h n hn)⟩
theorem Ad.eq {f g:Nat -> Option R} (h:Ad g Q) (e: ∀ n,f n=g n):Ad f Q:=let ⟨N,h⟩:=h;⟨N,fun n hn=>by rw [e];exact h n hn⟩
theorem Ev.bind {a:Nat -> Option T} {x:T} {b:Nat -> T -> Option R} (ha:Ev a x) (hb:Ev (fun n=>b n x) r):Ev (fun n=>(a n).bind (b n)) r:=by
 obtain ⟨N,ha⟩:=ha;obtain ⟨M,hb⟩:=hb;refine ⟨max N M,fun n hn=>?_⟩
 show (a n).bind (b n)=_
 rw [ha n (by omega),zCj];exact hb n (by omega)
theorem Ad.bind {a:Nat -> Option T} {x:T} {b:Nat -> T -> Option R} (ha:Ev a x) (hb:Ad (fun n=>b n x) Q):Ad (fun n=>(a n).bind (b n)) Q:=by
 obtain ⟨N,ha⟩:=ha;obtain ⟨M,hb⟩:=hb;refine ⟨max N M,fun n hn=>?_⟩
 show ∃ r,(a n).bind (b n)=some r/\ _
 rw [ha n (by omega),zCj];exact hb n (by omega)
theorem Ad.all {l:List T} {F:T -> Nat -> Option R} (h: ∀ y∈l,Ad (F y) Q): ∃ N,∀ n,N<=n -> ∀ y∈l,∃ r,F y n=some r/\ Q r:=by
 induction l with
 | nil=>exact ⟨0,fun n _ y hy=>absurd hy zEP⟩
 | cons x l ih=>
  obtain ⟨N,hN⟩:=ih fun y hy=>h y (zDK _ hy)
  obtain ⟨M,hM⟩:=h x zDh;refine ⟨max N M,fun n hn y hy=>?_⟩;rcases zDF.1 hy with rfl | hy
  ·exact hM n (by omega)
  ·exact hN n (by omega) y hy
theorem Ad.range {F:Nat -> Nat -> Option R} {A:Nat -> R -> Prop}: ∀ (k:Nat),(∀ i,i<k -> Ad (F i) (A i)) -> ∃ N,∀ n,N<=n -> ∀ i,i<k -> ∃ r,F i n=some r/\ A i r
 | 0,_=>⟨0,fun n _ i hi=>absurd hi (zCz i)⟩
 | k+1,h=>by
  obtain ⟨N,hN⟩:=Ad.range k fun i hi=>h i (by omega)
  obtain ⟨M,hM⟩:=h k (by omega);refine ⟨max N M,fun n hn i hi=>?_⟩;rcases zCx.1 hi with hi | rfl
  ·exact hN n (by omega) i hi
  ·exact hM n (by omega)
theorem Ad.next [DecidableEq R] {rem:KS} {a:Nat -> Option R} {F:Nat -> List Int -> Option R} (hn:rem≠[]) (h: ∀ y∈rem,Ad (fun n=>F n y) Q) (hu: ∀ r r',Q r -> Q r' -> r=r'):Ad (fun n=>He rem (a n) (F n)) Q:=by
 obtain ⟨N,hN⟩:=Ad.all h;refine ⟨N,fun n Oy=>?_⟩;obtain ⟨y0,wK⟩:=List.exists_mem_of_ne_nil rem hn;obtain ⟨r,h1,h2⟩:=hN n Oy y0 wK;refine ⟨r,tX hn fun y hy=>?_,h2⟩;obtain ⟨r',h3,h4⟩:=hN n Oy y hy;rw [hu _ _ h2 h4];exact h3
end
end Go.Proofs.YtgkhhfnhacibcaaGreatDoor
namespace Go.Proofs.YtgkhhfnhacibcaaGreatDoor
open Go.RowKit
class HC (F:Fence):Prop where
 x:HX F Tryz.prog
 w:F=Fence.wide∨∃ l,F=Fence.wide.inRound l
instance:HC Fence.wide:=⟨⟨D4.wide,by kernel_rfl⟩,.inl rfl⟩
instance (l:Nat):HC (Fence.wide.inRound l):=⟨⟨D4.round l,by kernel_rfl⟩,.inr ⟨l,rfl⟩⟩
abbrev DV.i (x:Int):DV:=.int .i64 x
def AE:Bb:=fun _=>.no
def Hh:Nat -> List DV -> List Nat
 | _,[]=>[]
 | i,.any::r=>Hh (i+1) r
 | i,_::r=>i::Hh (i+1) r
section
variable {F:Fence} {B:Option Nat} {L:Nat} {Y N:Bi Tryz.prog GG L} {Q:QY Tryz.prog GG L} {k k':List KI} {S:St} {fr:List DV} {h' h2:DH} {c:List (DV×DH×Bool)} {o:List (Nat×DV)} {z:List (Nat×Fz)} {v w:List Prop}
theorem gz [hX:HC F] (Ax:Bb) (σ:List Nat) (hl:HS c o z v) (ks:List Nat) (hz:HS [] [] [] w) (k':List KI) (fr:List DV) (h':DH) (hk:Av Tryz.prog GG F B L Y Q k' ⟨fr,h'⟩) (tg:List (List (Nat×Nat)×St):=[])
 (h:(B5 Tryz.prog GG Ax 400 k S ⟨c,o,z,tg⟩).bind (LE (Hh 0 fr) σ L ks)=some (.at k',fr,h',v,w,[],[],true):=by kernel_rfl) (hc:IT k'=true:=by kernel_rfl):Av Tryz.prog GG F B L Y Q k S:=
 BU.gS hX.x Ax 400 (Hh 0 fr) σ tg hl ks hz k' fr h' h hc hk
theorem gs [hX:HC F] (Ax:Bb) (σ:List Nat) (hl:HS c o z v) (k':List KI) (fr:List DV) (h':DH) (hk:Av Tryz.prog GG F B L Y Q k' ⟨fr,h'⟩) (tg:List (List (Nat×Nat)×St):=[])
 (h:(B5 Tryz.prog GG Ax 400 k S ⟨c,o,z,tg⟩).bind (LE (Hh 0 fr) σ L [])=some (.at k',fr,h',v,[],[],[],true):=by kernel_rfl) (hc:IT k'=true:=by kernel_rfl):Av Tryz.prog GG F B L Y Q k S:=
 BU.gS hX.x Ax 400 (Hh 0 fr) σ tg hl [] H0 k' fr h' h hc hk
theorem gg [hX:HC F] (Ax:Bb) (σ:List Nat) (hl:HS c o z v) (hk:Av Tryz.prog GG F B L Y Q k' ⟨fr,h'⟩) (tg:List (List (Nat×Nat)×St):=[])
 (h:(B5 Tryz.prog GG Ax 400 k S ⟨c,o,z,tg⟩).bind (LE (Hh 0 fr) σ L [])=some (.at k',fr,h',v,[],[],[],true):=by kernel_rfl) (hc:IT k'=true:=by kernel_rfl):Av Tryz.prog GG F B L Y Q k S:=
 BU.gS hX.x Ax 400 (Hh 0 fr) σ tg hl [] H0 k' fr h' h hc hk
theorem el [hX:HC F] {fn:Func} {d:DV} (Ax:Bb) (live σ:List Nat) (hl:HS c o z v) (ks:List Nat) (hz:HS [] [] [] w) (rs:List DV) (le:AQ (I1 rs) d) (tg:List (List (Nat×Nat)×St):=[])
 (h:(B5 Tryz.prog GG Ax 400 k S ⟨c,o,z,tg⟩).bind (JB Tryz.prog live σ L ks fn d h2.length)=some (true,rs,h2,v,w,[],[],true):=by kernel_rfl):BU Tryz.prog GG F B L N (F3 Tryz.prog fn L d h2) k S:=
 BU.el hX.x Ax 400 live σ tg hl ks hz rs le h
theorem ez [hX:HC F] {fn:Func} {d:DV} (Ax:Bb) (live σ:List Nat) (hl:HS c o z v) (ks:List Nat) (hz:HS [] [] [] w) (tg:List (List (Nat×Nat)×St):=[])
 (h:(B5 Tryz.prog GG Ax 400 k S ⟨c,o,z,tg⟩).bind (fun r=>(JB Tryz.prog live σ L ks fn d h2.length r).map fun q=>(q.1,I1 q.2.1,q.2.2))=some (true,d,h2,v,w,[],[],true):=by kernel_rfl):BU Tryz.prog GG F B L N (F3 Tryz.prog fn L d h2) k S:=
 BU.e hX.x Ax 400 live σ tg hl ks hz h
theorem ee [hX:HC F] {fn:Func} {d:DV} (Ax:Bb) (live σ:List Nat) (hl:HS c o z v) (tg:List (List (Nat×Nat)×St):=[])
 (h:(B5 Tryz.prog GG Ax 400 k S ⟨c,o,z,tg⟩).bind (fun r=>(JB Tryz.prog live σ L [] fn d h2.length r).map fun q=>(q.1,I1 q.2.1,q.2.2))=some (true,d,h2,v,[],[],[],true):=by kernel_rfl):BU Tryz.prog GG F B L N (F3 Tryz.prog fn L d h2) k S:=
 BU.e hX.x Ax 400 live σ tg hl [] H0 h
theorem rr [hX:HC F] {ex:List Exit} {i:Nat} {e:Exit} (Ax:Bb) (σ:List Nat) (he:(Exit.normal::ex)[i]? =some e) (hl:HS c o z v) (tg:List (List (Nat×Nat)×St):=[])
 (h:(B5 Tryz.prog GG Ax 400 k S ⟨c,o,z,tg⟩).map (YT σ L)=some (some e,h2,v,[],[],[],true):=by kernel_rfl):BU Tryz.prog GG F B L N (DT L ex i h2) k S:=
 BU.r hX.x Ax 400 σ tg hl he h
theorem ag [hX:HC F] {Q:Exit -> St -> Prop} {assign body:Code} (Ax:Bb) (σ:List Nat) (hl:HS c o z v) (fr:List DV) (h':DH) (hk: ∀ N2:Bi Tryz.prog GG L,BU Tryz.prog GG F B L N2 Q [.code body] ⟨fr,h'⟩)
 (h:(B5 Tryz.prog GG Ax 400 [.code assign] S ⟨c,o,z,[]⟩).map (Q7 (Hh 0 fr) σ L)=some (.at [],fr,h',v,[],[],true):=by kernel_rfl):GR Tryz.prog GG F B L N Q assign body S:=
 GR.g hX.x Ax 400 (Hh 0 fr) σ hl fr h' h hk
theorem rd {n m:Nat} (hm:n+1<=m) (h: ∀ m,n<=m -> Av Tryz.prog GG F B L Y Q (cr m k) S) (hk:Mv k=true:=by kernel_rfl):Av Tryz.prog GG F B L Y Q (Ak m k) S:=BU.round hm hk h
theorem en (m:Nat) (h:Av Tryz.prog GG F B L Y Q (Ak m k) S) (hk:Mv k=true:=by kernel_rfl):Av Tryz.prog GG F B L Y Q k S:=BU.enter m hk h
end
theorem eu {f:Nat} {ds:List DV} {h:DH} {d:DV} {h':DH} {ext:Bool} (DS:ES Tryz.prog GG f ds h d h' ext) (σ:List Nat) (H:DH) (k:Nat) (hb:Ik σ H.length h.length h'.length=true:=by kernel_rfl) (hk:σ.all (fun j=>Nat.ble k j)=true:=by kernel_rfl) (hh:(σ.map fun k=>H.getD k none)=h.map (Cg σ H.length):=by kernel_rfl):Np Tryz.prog GG f (ds.map (up σ H.length)) H (up σ H.length d) (Cr H σ h') k:=DS.embedU σ H k hb hk hh
theorem em {f:Nat} {ds:List DV} {h:DH} {d:DV} {h':DH} {ext:Bool} (DS:ES Tryz.prog GG f ds h d h' ext) (σ:List Nat) (H:DH) (hb:Ik σ H.length h.length h'.length=true:=by kernel_rfl) (hh:(σ.map fun k=>H.getD k none)=h.map (Cg σ H.length):=by kernel_rfl):ES Tryz.prog GG f (ds.map (up σ H.length)) H (up σ H.length d) (Cr H σ h') ext:=ES.emC DS σ H hb hh
theorem es {f:Nat} {ds:List DV} {h:DH} {d:DV} {h':DH} {ext:Bool} (DS:ES Tryz.prog GG f ds h d h' ext) (σ:List Nat) (H:DH) (EL:List DV) (ha:U5 H σ EL ds) (hb:Ik σ H.length h.length h'.length=true:=by kernel_rfl) (hh:(σ.map fun k=>H.getD k none)=h.map (Cg σ H.length):=by kernel_rfl) (hs:(ID d&&h'.all QJ)=true:=by kernel_rfl):ES Tryz.prog GG f EL H (up σ H.length d) (Cr H σ h') ext:=ES.embedSB DS σ H ha hb hh hs
theorem fb {f:Nat} {ds:List DV} {d:DV} (h0:ES Tryz.prog GG f ds [] d [] true) (h:DH) (Ff:ds.all G5=true:=by kernel_rfl):ES Tryz.prog GG f ds h d h true:=ES.frameB h0 h Ff
theorem sb {f:Nat} (ds:List DV) {D1:List DV} {d:DV} (h0:ES Tryz.prog GG f D1 [] d [] true) (h:DH) (hs:Ls h ds D1) (hd:Tu d=true:=by kernel_rfl):ES Tryz.prog GG f ds h d h true:=ES.snapB h0 h hs hd
theorem ot {f:Nat} {fn:Func} {ds:List DV} {h:DH} {d:DV} {h':DH} {ext:Bool} (hf:Tryz.prog.funcs[f]? =some fn) (H: ∀ (B:Nat) (N:Bi Tryz.prog GG h.length),BU Tryz.prog GG Fence.wide (some B) h.length N (F3 Tryz.prog fn h.length d h') (start fn) ⟨ds++List.replicate (fn.ntmps-ds.length) .any,h⟩)
 (hb:fn.body.isSome=true:=by kernel_rfl) (KH:(fn.name== "runtime.NumGoroutine")=false:=by kernel_rfl) (hni:h'.all Yg=true:=by kernel_rfl) (JR:(!ext||h.isEmpty)=true:=by kernel_rfl):ES Tryz.prog GG f ds h d h' ext:=
 ES.of_trk hf hb KH (gh hni) (fun e=>by subst e;simpa using JR) H
section
variable {F:Fence} {B L:Nat} {Y:Bi Tryz.prog GG L} {Q:QY Tryz.prog GG L} {fr:List DV} {h:DH} {K:List KI} {a b:Code} {α σ:Type} {l:List α} {H:σ -> DH} {FR:α -> List DV}
theorem rx [hX:HC F] (ex:List Exit) (kk t:Nat) (ps:Array Tmp) (enc:α -> Array Value) (L':Nat) {f:α -> σ -> Option (σ×Nat)} {s0:σ} {rE:σ×Nat} (hf:Em f l s0=some rE)
 (Dn: ∀ (l B:Nat) (N:Bi Tryz.prog GG L') (x:α) (s:σ) (r:σ×Nat),f x s=some r -> GR Tryz.prog GG (Fence.wide.inRound l) (some B) L' N (DT L' ex r.2 (H r.1)) a b ⟨FR x,H s⟩)
 (Ea: ∀ e,(Exit.normal::ex)[rE.2]? =some e -> Dp Tryz.prog GG F (some B) L Q (ER K) e ⟨fr,H rE.1⟩ Y) (JS:(ex.all fun e=>(KT e).isSome)=true:=by kernel_rfl)
 (hK:MR K=some (.tmp t,ps,a,b,ER K):=by kernel_rfl) (hg:Aa fr (.tmp t)= .it kk:=by kernel_rfl) (hk:h[kk]? =some (some (.iter (l.map enc))):=by kernel_rfl) (EF: ∀ x,(enc x).size=ps.size:=by exact fun _=>rfl) (hL:Nat.ble L L'=true:=by kernel_rfl) (GO:fr.all (GX L')=true:=by kernel_rfl) (h0:h.set kk none=H s0:=by kernel_rfl) (Dx:(fun x=>Jp fr ps.toList (enc x).toList)=FR:=by kernel_rfl):Av Tryz.prog GG F (some B) L Y Q K ⟨fr,h⟩:=
 BU.rg hX.w ex JS kk t ps enc L' hf Dn hK hg hk EF hL GO h0 Dx Ea
theorem r0 [hX:HC F] (kk t:Nat) (ps:Array Tmp) (enc:α -> Array Value) (L':Nat) {f:α -> σ -> Option σ} {s0 sE:σ} (hf:B6 f l s0=some sE)
 (Dn: ∀ (l B:Nat) (N:Bi Tryz.prog GG L') (x:α) (s r:σ),f x s=some r -> GR Tryz.prog GG (Fence.wide.inRound l) (some B) L' N (DT L' [] 0 (H r)) a b ⟨FR x,H s⟩)
 (Ea:Av Tryz.prog GG F (some B) L Y Q (ER K) ⟨fr,H sE⟩)
 (hK:MR K=some (.tmp t,ps,a,b,ER K):=by kernel_rfl) (hg:Aa fr (.tmp t)= .it kk:=by kernel_rfl) (hk:h[kk]? =some (some (.iter (l.map enc))):=by kernel_rfl) (EF: ∀ x,(enc x).size=ps.size:=by exact fun _=>rfl) (hL:Nat.ble L L'=true:=by kernel_rfl) (GO:fr.all (GX L')=true:=by kernel_rfl) (h0:h.set kk none=H s0:=by kernel_rfl) (Dx:(fun x=>Jp fr ps.toList (enc x).toList)=FR:=by kernel_rfl):Av Tryz.prog GG F (some B) L Y Q K ⟨fr,h⟩:=
 BU.rg0 hX.w kk t ps enc L' hf Dn hK hg hk EF hL GO h0 Dx Ea
end
abbrev Yd (L:Nat):=Bi Tryz.prog GG L
abbrev EQ:=ES Tryz.prog GG
abbrev FQ:=F3 Tryz.prog
abbrev TW (B:Nat) {L:Nat} (N:Yd L) (Q:Exit -> St -> Prop) (k:List KI) (S:St):Prop:=BU Tryz.prog GG Fence.wide (some B) L N Q k S
abbrev TA (l B:Nat) {L:Nat} (N:Yd L) (Q:Exit -> St -> Prop) (fn:Func) (t:Nat) (S:St):Prop:=GR Tryz.prog GG (Fence.wide.inRound l) (some B) L N Q (rf fn t) (UF fn t) S
abbrev Al {X R:Type} (m:Nat -> X -> Option R) (T:Nat -> R -> X -> Prop):Prop:=∀ n x r,m n x=some r -> T n r x
theorem ia {X R:Type} {m:Nat -> X -> Option R} {T:Nat -> R -> X -> Prop} (h0: ∀ x,m 0 x=none) (h: ∀ n,(∀ x r,m n x=some r -> T n r x) -> ∀ x r,m (n+1) x=some r -> T (n+1) r x):Al m T
 | 0,x,_,e=>by rw [h0 x] at e;cases e
 | n+1,x,r,e=>h n (ia h0 h n) x r e
/-A proof in cv shape of nI was read off:nI holds of each way on,cv hints gathered so Ge. -/
def Gt {R:Type} (T:R -> Prop) (c:List (DV×DH×Bool)) (o:List (Nat×DV)) (z:List (Nat×Fz)) (v:List Prop) (A:Option R):Prop:=HS c o z v -> ∀ r,A=some r -> T r
section
variable {R R':Type} {T:R -> Prop} {c:List (DV×DH×Bool)} {o:List (Nat×DV)} {z:List (Nat×Fz)} {v:List Prop} {A A':Option R} {r0:R} {b b':Bool} {p q:Prop} {f:Nat} {ds:List DV} {h h':DH} {d d':DV} {e:Bool} {xi:Int}
theorem gO {F:Fence} {B:Option Nat} {L:Nat} {Y:Yd L} {Q:R -> QY Tryz.prog GG L} {k:List KI} {S:St} (t:Gt (fun r=>Av Tryz.prog GG F B L Y (Q r) k S) [] [] [] [] A): ∀ r,A=some r -> Av Tryz.prog GG F B L Y (Q r) k S:=t H0
theorem rO (t:Gt T [] [] [] [] A):Gt T c o z v A:=fun _=>t H0
theorem nO:Gt T c o z v none:=fun _ _ h=>by cases h
theorem lF (x:HS c o z v -> T r0):Gt T c o z v (some r0):=fun p _ h=>zCq h▸x p
theorem bn (x:b=true -> Gt T c o z v A) (y:b=false -> Gt T c o z v A'):Gt T c o z v (bif b then A else A'):=fun p r h=>(Gh h).elim (fun h=>x h.1 p r h.2) (fun h=>y h.1 p r h.2)
theorem bj (t:Nat) (x:b=true -> Gt T c (o++[(t,.bool true)]) z (v++[AQ (.bool b) (.bool true)]) A) (y:b=false -> Gt T c (o++[(t,.bool false)]) z (v++[AQ (.bool b) (.bool false)]) A'):Gt T c o z v (bif b then A else A'):=bn (fun h p=>x h (p.b t h)) (fun h p=>y h (p.b t h))
theorem bi (t:Nat) (x:Gt T c (o++[(t,.bool true)]) z (v++[AQ (.bool b) (.bool true)]) A) (y:Gt T c (o++[(t,.bool false)]) z (v++[AQ (.bool b) (.bool false)]) A'):Gt T c o z v (bif b then A else A'):=bj t (fun _=>x) (fun _=>y)
theorem gn {_:Decidable p} (x:p -> Gt T c o z v A):Gt T c o z v (if p then A else none):=fun w r h=>x (EI h).1 w r (EI h).2
theorem gi {_:Decidable p} (x:Gt T c o z (v++[p]) A):Gt T c o z v (if p then A else none):=gn fun g w=>x (w.g g)
theorem gc {_:Decidable p} {_:Decidable q} (x:Gt T c o z v (if p then (if q then A else none) else none)):Gt T c o z v (if p/\ q then A else none):=fun w r h=>x w r (by obtain ⟨⟨hp,hq⟩,h⟩:=EI h;rw [zB3 hp,zB3 hq];exact h)
theorem gw {_:Decidable (AI xi)} (t:Nat) (x:Gt T c (o++[(t,.int .i64 xi)]) z (v++[AQ (.int .i64 (IntKind.i64.wrap xi)) (.int .i64 xi)]) A):Gt T c o z v (if AI xi then A else none):=gn fun g w=>x (w.w t g)
theorem cn {F:Option R'} {A:R' -> Option R} (x: ∀ y,F=some y -> Gt T c o z v (A y)):Gt T c o z v (F.bind A):=fun w r h=>let ⟨y,hy,h⟩:=bT h;x y hy w r h
theorem cf {F:Option R'} {A:R' -> Option R} {d:R' -> DV} (k: ∀ {y},F=some y -> ES Tryz.prog GG f ds [] (d y) [] true) (h:DH) (x: ∀ y,Gt T (c++[(d y,h,true)]) o z (v++[ES Tryz.prog GG f ds h (d y) h true]) (A y)) (Ff:ds.all G5=true:=by kernel_rfl):Gt T c o z v (F.bind A):=cn fun y hy w=>x y (w.c (fb (k hy) h Ff))
theorem ce {F:Option R'} {A:R' -> Option R} {d:R' -> DV} {h':R' -> DH} (k: ∀ {y},F=some y -> ES Tryz.prog GG f ds h (d y) (h' y) e) (σ:List Nat) (H:DH) (x: ∀ y,Gt T (c++[(up σ H.length (d y),Cr H σ (h' y),e)]) o z (v++[ES Tryz.prog GG f (ds.map (up σ H.length)) H (up σ H.length (d y)) (Cr H σ (h' y)) e]) (A y)) (hb: ∀ y,Ik σ H.length h.length (h' y).length=true:=by intro;kernel_rfl) (hh:(σ.map fun k=>H.getD k none)=h.map (Cg σ H.length):=by kernel_rfl):Gt T c o z v (F.bind A):=cn fun y hy w=>x y (w.c (em (k hy) σ H (hb y) hh))
theorem jb (t:Nat) (g:b=b') (x:Gt T c (o++[(t,.bool b')]) z (v++[AQ (.bool b) (.bool b')]) A):Gt T c o z v A:=fun w=>x (w.b t g)
theorem jw (t:Nat) (g:AI xi) (x:Gt T c (o++[(t,.int .i64 xi)]) z (v++[AQ (.int .i64 (IntKind.i64.wrap xi)) (.int .i64 xi)]) A):Gt T c o z v A:=fun w=>x (w.w t g)
theorem jg (g:p) (x:Gt T c o z (v++[p]) A):Gt T c o z v A:=fun w=>x (w.g g)
theorem jt (x:Gt T c o z (v++[True]) A):Gt T c o z v A:=fun w=>x w.t
theorem jo (t:Nat) (g:AQ d d') (x:Gt T c (o++[(t,d')]) z (v++[AQ d d']) A):Gt T c o z v A:=fun w=>x (w.o t g)
theorem jc (g:ES Tryz.prog GG f ds h d h' e) (x:Gt T (c++[(d,h',e)]) o z (v++[ES Tryz.prog GG f ds h d h' e]) A):Gt T c o z v A:=fun w=>x (w.c g)
theorem jq {k:Nat} (g:Np Tryz.prog GG f ds h d h' k) (x:Gt T (c++[(d,h',false)]) o z (v++[Np Tryz.prog GG f ds h d h' k]) A):Gt T c o z v A:=fun w=>x (w.q g)
theorem ja (t k m:Nat) {n n':Nat} {f f':Nat -> Nat -> DV} (g:n=n'/\ ∀ i j,i<n -> j<m -> AQ (f i j) (f' i j)) (x:Gt T c o (z++[(t,.arr k n' f')]) (v++[n=n'/\ ∀ i j,i<n -> j<m -> AQ (f i j) (f' i j)]) A):Gt T c o z v A:=fun w=>x (w.a t k m g)
theorem jz (t k:Nat) (x:Gt T c o (z++[(t,.frz k)]) v A):Gt T c o z v A:=fun w=>x (w.z t k)
theorem ju (t k:Nat) (x:Gt T c o (z++[(t,.unf k)]) v A):Gt T c o z v A:=fun w=>x (w.u t k)
theorem jk (t:Nat) (x:Gt T c o (z++[(t,.rws)]) v A):Gt T c o z v A:=fun w=>x (w.k t)
end
section
variable {R:Type} {c:List (DV×DH×Bool)} {o:List (Nat×DV)} {z:List (Nat×Fz)} {v:List Prop} {A:Option R} {r0:R} {F:Fence} {B:Option Nat} {L:Nat} {Y N:Bi Tryz.prog GG L} {k k':List KI} {S:St} {fr:List DV} {h':DH}
theorem lG [hX:HC F] (Ax:Bb) (σ:List Nat) {Q:R -> QY Tryz.prog GG L} (hk: ∀ {r},A=some r -> Av Tryz.prog GG F B L Y (Q r) k' ⟨fr,h'⟩) (tg:List (List (Nat×Nat)×St):=[])
 (h:(B5 Tryz.prog GG Ax 400 k S ⟨c,o,z,tg⟩).bind (LE (Hh 0 fr) σ L [])=some (.at k',fr,h',v,[],[],[],true):=by kernel_rfl) (hc:IT k'=true:=by kernel_rfl):Gt (fun r=>Av Tryz.prog GG F B L Y (Q r) k S) c o z v A:=
 fun p _ e=>gg Ax σ p (hk e) tg h hc
theorem lN [hX:HC F] {m:Nat} (Ax:Bb) (σ:List Nat) {Q:R -> QY Tryz.prog GG L} (hk: ∀ {r},A=some r -> Av Tryz.prog GG F B L Y (Q r) (Ak m k') ⟨fr,h'⟩) (tg:List (List (Nat×Nat)×St):=[])
 (h:(B5 Tryz.prog GG Ax 400 k S ⟨c,o,z,tg⟩).bind (LE (Hh 0 fr) σ L [])=some (.at k',fr,h',v,[],[],[],true):=by kernel_rfl) (hc:IT k'=true:=by kernel_rfl) (hm:Mv k'=true:=by kernel_rfl):Gt (fun r=>Av Tryz.prog GG F B L Y (Q r) k S) c o z v A:=
 lG Ax σ (fun e=>en m (hk e) hm) tg h hc
theorem lE [hX:HC F] {fn:Func} {D:R -> DV} {E:R -> DH} (Ax:Bb) (live σ:List Nat) (tg:List (List (Nat×Nat)×St):=[])
 (h:(B5 Tryz.prog GG Ax 400 k S ⟨c,o,z,tg⟩).bind (fun r=>(JB Tryz.prog live σ L [] fn (D r0) (E r0).length r).map fun q=>(q.1,I1 q.2.1,q.2.2))=some (true,D r0,E r0,v,[],[],[],true):=by kernel_rfl):Gt (fun r=>BU Tryz.prog GG F B L N (F3 Tryz.prog fn L (D r) (E r)) k S) c o z v (some r0):=
 lF fun p=>ee Ax live σ p tg h
end
end Go.Proofs.YtgkhhfnhacibcaaGreatDoor
namespace Go.Proofs.YtgkhhfnhacibcaaGreatDoor
abbrev zDW:=@Nat.le_of_succ_le
end Go.Proofs.YtgkhhfnhacibcaaGreatDoor
namespace Go.Proofs.YtgkhhfnhacibcaaGreatDoor
open Go.RowKit
set_option maxRecDepth 100000
set_option maxHeartbeats 40000000
inductive Vv where
 | l1 (x5:Int)
def aU (n:Nat) (self:Vv -> Option Bool) (l_:List Int) (n_:Int) (x5:Int):Option Bool:=
 bif (decide (x5<(l_.length:Int))) then
  if 0<=x5/\ x5<(l_.length:Int) then
   bif ((l_.getD ((x5).toNat) 0)==n_) then
    some true
   else
    if AI (x5+1) then
     self (.l1 (x5+1))
    else none
  else none
 else
  some false
def jv (n:Nat) (self:Vv -> Option Bool) (l_:List Int) (n_:Int):Option Bool:=
 self (.l1 0)
def O8 (l_:List Int) (n_:Int):Nat -> Vv -> Option Bool
 | 0,_=>none
 | n+1,.l1 x5=>aU n (O8 l_ n_ n) l_ n_ x5
def has (n:Nat) (l_:List Int) (n_:Int):Option Bool:=jv n (O8 l_ n_ n) l_ n_
def zK (n B:Nat) (N:Yd 0) (l_:List Int) (n_:Int) (r:Bool):Vv -> Prop
 | .l1 x5=>∀ m0:Nat,n<=m0 -> TW B N (FQ Tryz.f93 0 (.bool r) []) (Ak m0 (Au (AZ Tryz.f93) 0 [])) ⟨AM 18 [(0,.ints l_),(1,.i n_),(5,.i x5)],[]⟩
theorem zL (B:Nat) (N:Yd 0) (l_:List Int) (n_:Int):Al (O8 l_ n_) (zK · B N l_ n_):=ia (fun _=>rfl) fun n AG pt r h=>by
 cases pt
 case l1 x5=>
  intro m0 AC;refine rd AC fun m0 AC=>?_
  revert r;apply gO;exact bi 9 (gi (bi 17 (lE AE [4] []) (gw 11 (lG AE [] (AG _ _ · m0 AC))))) (lE AE [4] [])
theorem js {n:Nat} {l_:List Int} {n_:Int} {r:Bool} (h:has n l_ n_=some r):EQ 93 [.ints l_,.i n_] [] (.bool r) [] true:=by
 refine ot Tryz.func93 fun B N=>?_
 revert r;apply gO;exact lN AE [] ((zL B N l_ n_ n) _ _ · n Nat.le.refl)
inductive Wt where
 | l1 (x7:Int)
def bU (n:Nat) (self:Wt -> Option Bool) (l_:List Int) (lo hi:Int) (x7:Int):Option Bool:=
 bif (decide (x7<(l_.length:Int))) then
  if 0<=x7/\ x7<(l_.length:Int) then
   bif (decide ((l_.getD ((x7).toNat) 0)<lo)) then
    some false
   else
    bif (decide ((l_.getD ((x7).toNat) 0)>hi)) then
     some false
    else
     if AI (x7+1) then
      self (.l1 (x7+1))
     else none
  else none
 else
  some true
def lm (n:Nat) (self:Wt -> Option Bool) (l_:List Int) (lo hi:Int):Option Bool:=
 self (.l1 0)
def Pe (l_:List Int) (lo hi:Int):Nat -> Wt -> Option Bool
 | 0,_=>none
 | n+1,.l1 x7=>bU n (Pe l_ lo hi n) l_ lo hi x7
def Lq (n:Nat) (l_:List Int) (lo hi:Int):Option Bool:=lm n (Pe l_ lo hi n) l_ lo hi
def zBz (n B:Nat) (N:Yd 0) (l_:List Int) (lo hi:Int) (r:Bool):Wt -> Prop
 | .l1 x7=>∀ m0:Nat,n<=m0 -> TW B N (FQ Tryz.f64 0 (.bool r) []) (Ak m0 (Au (AZ Tryz.f64) 0 [])) ⟨AM 28 [(0,.ints l_),(1,.i lo),(2,.i hi),(7,.i x7)],[]⟩
theorem zB0 (B:Nat) (N:Yd 0) (l_:List Int) (lo hi:Int):Al (Pe l_ lo hi) (zBz · B N l_ lo hi):=ia (fun _=>rfl) fun n AG pt r h=>by
 cases pt
 case l1 x7=>
  intro m0 AC;refine rd AC fun m0 AC=>?_
  revert r;apply gO;exact bi 11 (gn fun g0=>jg g0 (bi 19 (lE AE [6] []) (jg g0 (bi 26 (lE AE [6] []) (gw 13 (lG AE [] (AG _ _ · m0 AC))))))) (lE AE [6] [])
theorem S6 {n:Nat} {l_:List Int} {lo hi:Int} {r:Bool} (h:Lq n l_ lo hi=some r):EQ 64 [.ints l_,.i lo,.i hi] [] (.bool r) [] true:=by
 refine ot Tryz.func64 fun B N=>?_
 revert r;apply gO;exact lN AE [] ((zB0 B N l_ lo hi n) _ _ · n Nat.le.refl)
theorem qL:At (BA Tryz.f94 7) [] (List.range 9) []:=by unfold At;kernel_rfl
def N6:Bb:=fun i=>match i with
 | 7=>.ord [] (List.range 9) []
 | _=>.no
inductive PT where
 | l1 (x3:Int)
 | l2 (x3 x4:Int)
def a8 (n:Nat) (self:PT -> Option Bool) (l_:List Int) (x3:Int):Option Bool:=
 bif (decide (x3<(l_.length:Int))) then
  self (.l2 x3 0)
 else
  some true
def WR (n:Nat) (self:PT -> Option Bool) (l_:List Int) (x3 x4:Int):Option Bool:=
 bif (decide (x4<x3)) then
  if (0<=x3/\ x3<(l_.length:Int))/\ (0<=x4/\ x4<(l_.length:Int)) then
   bif ((l_.getD ((x3).toNat) 0)==(l_.getD ((x4).toNat) 0)) then
    some false
   else
    if AI (x4+1) then
     self (.l2 x3 (x4+1))
    else none
  else none
 else
  if AI (x3+1) then
   self (.l1 (x3+1))
  else none
def lA (n:Nat) (self:PT -> Option Bool) (l_:List Int):Option Bool:=
 self (.l1 0)
def Im (l_:List Int):Nat -> PT -> Option Bool
 | 0,_=>none
 | n+1,.l1 x3=>a8 n (Im l_ n) l_ x3
 | n+1,.l2 x3 x4=>WR n (Im l_ n) l_ x3 x4
def WV (n:Nat) (l_:List Int):Option Bool:=lA n (Im l_ n) l_
def zAi (n B:Nat) (N:Yd 0) (l_:List Int) (r:Bool):PT -> Prop
 | .l1 x3=>∀ m0:Nat,n<=m0 -> TW B N (FQ Tryz.f94 0 (.bool r) []) (Ak m0 (Au (AZ Tryz.f94) 0 [])) ⟨AM 25 [(0,.ints l_),(3,.i x3)],[]⟩
 | .l2 x3 x4=>∀ m0 m1:Nat,n<=m0 -> n<=m1 -> TW B N (FQ Tryz.f94 0 (.bool r) []) (Ak m1 (Au (AZ Tryz.f94) 2 [m0])) ⟨AM 25 [(0,.ints l_),(3,.i x3),(4,.i x4)],[]⟩
theorem zAj (B:Nat) (N:Yd 0) (l_:List Int):Al (Im l_) (zAi · B N l_):=ia (fun _=>rfl) fun n AG pt r h=>by
 cases pt
 case l1 x3=>
  intro m0 AC;refine rd AC fun m0 AC=>?_
  revert r;apply gO;exact bi 8 (lN N6 [] (AG _ _ · m0 n AC Nat.le.refl)) (lE N6 [2] [])
 case l2 x3 x4=>
  intro m0 m1 AC Am;have AC:=zDW AC;refine rd Am fun m1 Am=>?_
  revert r;apply gO;exact bi 13 (jg qL (gc (gi (gi (bi 24 (lE N6 [2] []) (gw 15 (lG N6 [] (AG _ _ · m0 m1 AC Am)))))))) (gw 10 (lG N6 [] (AG _ _ · m0 AC)))
theorem zAg {n:Nat} {l_:List Int} {r:Bool} (h:WV n l_=some r):EQ 94 [.ints l_] [] (.bool r) [] true:=by
 refine ot Tryz.func94 fun B N=>?_
 revert r;apply gO;exact lN N6 [] ((zAj B N l_ n) _ _ · n Nat.le.refl)
inductive VR where
 | l1 (x8:Int)
def ZK (n:Nat) (self:VR -> Option Int) (s_:List Int) (v:Int) (x8:Int):Option Int:=
 bif (decide (x8<(s_.length:Int))) then
  if 0<=x8/\ x8<(s_.length:Int) then
   bif (v==(s_.getD ((x8).toNat) 0)) then
    some x8
   else
    if AI (x8+1) then
     self (.l1 (x8+1))
    else none
  else none
 else
  some (-1)
def iq (n:Nat) (self:VR -> Option Int) (s_:List Int) (v:Int):Option Int:=
 self (.l1 0)
def My (s_:List Int) (v:Int):Nat -> VR -> Option Int
 | 0,_=>none
 | n+1,.l1 x8=>ZK n (My s_ v n) s_ v x8
def VS (n:Nat) (s_:List Int) (v:Int):Option Int:=iq n (My s_ v n) s_ v
def vk (n B:Nat) (N:Yd 0) (s_:List Int) (v:Int) (r:Int):VR -> Prop
 | .l1 x8=>∀ m0:Nat,n<=m0 -> TW B N (FQ Tryz.f130 0 (.i r) []) (Ak m0 (Au (AZ Tryz.f130) 0 [])) ⟨AM 19 [(0,.ints s_),(1,.i v),(7,.i (s_.length:Int)),(8,.i x8)],[]⟩
theorem vm (B:Nat) (N:Yd 0) (s_:List Int) (v:Int):Al (My s_ v) (vk · B N s_ v):=ia (fun _=>rfl) fun n AG pt r h=>by
 cases pt
 case l1 x8=>
  intro m0 AC;refine rd AC fun m0 AC=>?_
  revert r;apply gO;exact bi 9 (gi (bi 16 (lE AE [4] []) (gw 18 (lG AE [] (AG _ _ · m0 AC))))) (lE AE [4] [])
theorem vj {n:Nat} {s_:List Int} {v:Int} {r:Int} (h:VS n s_ v=some r):EQ 130 [.ints s_,.i v] [] (.i r) [] true:=by
 refine ot Tryz.func130 fun B N=>?_
 revert r;apply gO;exact lN AE [] ((vm B N s_ v n) _ _ · n Nat.le.refl)
inductive VU where
 | l1 (x8:Int)
def Rh (n:Nat) (self:VU -> Option Int) (s_:List Bool) (v:Bool) (x8:Int):Option Int:=
 bif (decide (x8<(s_.length:Int))) then
  if 0<=x8/\ x8<(s_.length:Int) then
   bif (v==(s_.getD ((x8).toNat) false)) then
    some x8
   else
    if AI (x8+1) then
     self (.l1 (x8+1))
    else none
  else none
 else
  some (-1)
def vt (n:Nat) (self:VU -> Option Int) (s_:List Bool) (v:Bool):Option Int:=
 self (.l1 0)
def J9 (s_:List Bool) (v:Bool):Nat -> VU -> Option Int
 | 0,_=>none
 | n+1,.l1 x8=>Rh n (J9 s_ v n) s_ v x8
def VV (n:Nat) (s_:List Bool) (v:Bool):Option Int:=vt n (J9 s_ v n) s_ v
def vu (n B:Nat) (N:Yd 0) (s_:List Bool) (v:Bool) (r:Int):VU -> Prop
 | .l1 x8=>∀ m0:Nat,n<=m0 -> TW B N (FQ Tryz.f121 0 (.i r) []) (Ak m0 (Au (AZ Tryz.f121) 0 [])) ⟨AM 19 [(0,.bools s_),(1,.bool v),(7,.i (s_.length:Int)),(8,.i x8)],[]⟩
theorem vv (B:Nat) (N:Yd 0) (s_:List Bool) (v:Bool):Al (J9 s_ v) (vu · B N s_ v):=ia (fun _=>rfl) fun n AG pt r h=>by
 cases pt
 case l1 x8=>
  intro m0 AC;refine rd AC fun m0 AC=>?_
  revert r;apply gO;exact bi 9 (gi (bi 16 (lE AE [4] []) (gw 18 (lG AE [] (AG _ _ · m0 AC))))) (lE AE [4] [])
theorem vr {n:Nat} {s_:List Bool} {v:Bool} {r:Int} (h:VV n s_ v=some r):EQ 121 [.bools s_,.bool v] [] (.i r) [] true:=by
 refine ot Tryz.func121 fun B N=>?_
 revert r;apply gO;exact lN AE [] ((vv B N s_ v n) _ _ · n Nat.le.refl)
def bG (n:Nat) (s_:List Int) (v:Int):Option Bool:=
 (VS n s_ v).bind fun y1=>
  some (decide (y1>=0))
def Lo (n:Nat) (s_:List Int) (v:Int):Option Bool:=bG n s_ v
theorem lK {n:Nat} {s_:List Int} {v:Int} {r:Bool} (h:Lo n s_ v=some r):EQ 119 [.ints s_,.i v] [] (.bool r) [] true:=by
 unfold Lo bG at h;refine ot Tryz.func119 fun B N=>?_
 revert r;apply gO;exact cf vj [] fun _=>lE AE [4] []
theorem qI:At (BA Tryz.f40 6) [] (List.range 9) []:=by unfold At;kernel_rfl
def QO:Bb:=fun i=>match i with
 | 6=>.ord [] (List.range 9) []
 | _=>.no
inductive WM where
 | l1 (x13:Int)
def SS (n:Nat) (self:WM -> Option Bool) (EV Ew:List Int) (x13:Int):Option Bool:=
 bif (decide (x13<(EV.length:Int))) then
  if (0<=x13/\ x13<(EV.length:Int))/\ (0<=x13/\ x13<(Ew.length:Int)) then
   bif ((EV.getD ((x13).toNat) 0) != (Ew.getD ((x13).toNat) 0)) then
    some false
   else
    if AI (x13+1) then
     self (.l1 (x13+1))
    else none
  else none
 else
  some true
def ka (n:Nat) (self:WM -> Option Bool) (EV Ew:List Int):Option Bool:=
 bif ((EV.length:Int) != (Ew.length:Int)) then
  some false
 else
  self (.l1 0)
def PO (EV Ew:List Int):Nat -> WM -> Option Bool
 | 0,_=>none
 | n+1,.l1 x13=>SS n (PO EV Ew n) EV Ew x13
def NR (n:Nat) (EV Ew:List Int):Option Bool:=ka n (PO EV Ew n) EV Ew
def zAU (n B:Nat) (N:Yd 0) (EV Ew:List Int) (r:Bool):WM -> Prop
 | .l1 x13=>∀ m0:Nat,n<=m0 -> TW B N (FQ Tryz.f40 0 (.bool r) []) (Ak m0 (Au (AZ Tryz.f40) 0 [])) ⟨AM 26 [(0,.ints EV),(1,.ints Ew),(12,.i (EV.length:Int)),(13,.i x13)],[]⟩
theorem zAV (B:Nat) (N:Yd 0) (EV Ew:List Int):Al (PO EV Ew) (zAU · B N EV Ew):=ia (fun _=>rfl) fun n AG pt r h=>by
 cases pt
 case l1 x13=>
  intro m0 AC;refine rd AC fun m0 AC=>?_
  revert r;apply gO;exact bi 14 (jg qI (gc (gi (gi (bi 24 (lE QO [4] []) (gw 25 (lG QO [] (AG _ _ · m0 AC)))))))) (lE QO [4] [])
theorem ax {n:Nat} {EV Ew:List Int} {r:Bool} (h:NR n EV Ew=some r):EQ 40 [.ints EV,.ints Ew] [] (.bool r) [] true:=by
 refine ot Tryz.func40 fun B N=>?_
 revert r;apply gO;exact bi 10 (lE QO [4] []) (lN QO [] ((zAV B N EV Ew n) _ _ · n Nat.le.refl))
inductive OL where
 | l1 (x3:Int)
 | l2 (x3 x4:Int)
def X9 (n:Nat) (self:OL -> Option Int) (g_:List (List Int)) (x3:Int):Option Int:=
 bif (decide (x3<(g_.length:Int))) then
  self (.l2 x3 0)
 else
  some 0
def UO (n:Nat) (self:OL -> Option Int) (g_:List (List Int)) (x3 x4:Int):Option Int:=
 if 0<=x3/\ x3<(g_.length:Int) then
  bif (decide (x4<(((g_.getD ((x3).toNat) []).length:Nat):Int))) then
   if 0<=x4/\ x4<(((g_.getD ((x3).toNat) []).length:Nat):Int) then
    bif (decide (((g_.getD ((x3).toNat) []).getD ((x4).toNat) 0)<0)) then
     some 120
    else
     bif (decide (((g_.getD ((x3).toNat) []).getD ((x4).toNat) 0)>=(g_.length:Int))) then
      some 120
     else
      bif (((g_.getD ((x3).toNat) []).getD ((x4).toNat) 0)==x3) then
       some 120
      else
       bif (decide (x4>0)) then
        if AI (x4-1)/\ (0<=(x4-1)/\ (x4-1)<(((g_.getD ((x3).toNat) []).length:Nat):Int)) then
         bif (decide (((g_.getD ((x3).toNat) []).getD (((x4-1)).toNat) 0)>=((g_.getD ((x3).toNat) []).getD ((x4).toNat) 0))) then
          some 120
         else
          if (0:Int)<=((g_.getD ((x3).toNat) []).getD ((x4).toNat) 0)/\ ((g_.getD ((x3).toNat) []).getD ((x4).toNat) 0)<(g_.length:Int) then
           (has n (g_.getD (((g_.getD ((x3).toNat) []).getD ((x4).toNat) 0).toNat) []) x3).bind fun y1=>
            bif (!y1) then
             some 120
            else
             if AI (x4+1) then
              self (.l2 x3 (x4+1))
             else none
          else none
        else none
       else
        if (0:Int)<=((g_.getD ((x3).toNat) []).getD ((x4).toNat) 0)/\ ((g_.getD ((x3).toNat) []).getD ((x4).toNat) 0)<(g_.length:Int) then
         (has n (g_.getD (((g_.getD ((x3).toNat) []).getD ((x4).toNat) 0).toNat) []) x3).bind fun y1=>
          bif (!y1) then
           some 120
          else
           if AI (x4+1) then
            self (.l2 x3 (x4+1))
           else none
        else none
   else none
  else
   if AI (x3+1) then
    self (.l1 (x3+1))
   else none
 else none
def fW (n:Nat) (self:OL -> Option Int) (g_:List (List Int)):Option Int:=
 bif (decide ((g_.length:Int)>256)) then
  some 120
 else
  self (.l1 0)
def IL (g_:List (List Int)):Nat -> OL -> Option Int
 | 0,_=>none
 | n+1,.l1 x3=>X9 n (IL g_ n) g_ x3
 | n+1,.l2 x3 x4=>UO n (IL g_ n) g_ x3 x4
def UP (n:Nat) (g_:List (List Int)):Option Int:=fW n (IL g_ n) g_
def sQ (n B:Nat) (N:Yd 0) (g_:List (List Int)) (r:Int):OL -> Prop
 | .l1 x3=>∀ m0:Nat,n<=m0 -> TW B N (FQ Tryz.f65 0 (.i r) []) (Ak m0 (Au (AZ Tryz.f65) 0 [])) ⟨AM 69 [(0,.sl 1 g_.length (As A4 g_)),(3,.i x3)],[]⟩
 | .l2 x3 x4=>∀ m0 m1:Nat,n<=m0 -> n<=m1 -> TW B N (FQ Tryz.f65 0 (.i r) []) (Ak m1 (Au (AZ Tryz.f65) 2 [m0])) ⟨AM 69 [(0,.sl 1 g_.length (As A4 g_)),(3,.i x3),(4,.i x4)],[]⟩
theorem sR (B:Nat) (N:Yd 0) (g_:List (List Int)):Al (IL g_) (sQ · B N g_):=ia (fun _=>rfl) fun n AG pt r h=>by
 cases pt
 case l1 x3=>
  intro m0 AC;refine rd AC fun m0 AC=>?_
  revert r;apply gO;exact bi 12 (lN AE [] (AG _ _ · m0 n AC Nat.le.refl)) (lE AE [2] [])
 case l2 x3 x4=>
  intro m0 m1 AC Am;have AC:=zDW AC;refine rd Am fun m1 Am=>?_
  revert r;apply gO;exact gn fun g0=>jg g0 (bi 21 (jg g0 (gi (bi 32 (lE AE [2] []) (bi 37 (lE AE [2] []) (bi 42 (lE AE [2] []) (bi 46 (jg g0 (gc (gw 53 (gi (bi 57 (lE AE [2] []) (gi (cf js [] fun _=>bi 67 (lE AE [2] []) (gw 23 (lG AE [] (AG _ _ · m0 m1 AC Am)))))))))) (gi (cf js [] fun _=>bi 67 (lE AE [2] []) (gw 23 (lG AE [] (AG _ _ · m0 m1 AC Am))))))))))) (gw 14 (lG AE [] (AG _ _ · m0 AC))))
theorem sO {n:Nat} {g_:List (List Int)} {r:Int} (h:UP n g_=some r):EQ 65 [.sl 1 g_.length (As A4 g_)] [] (.i r) [] true:=by
 refine ot Tryz.func65 fun B N=>?_
 revert r;apply gO;exact bi 8 (lE AE [2] []) (lN AE [] ((sR B N g_ n) _ _ · n Nat.le.refl))
inductive PG where
 | l1 (BX:Int)
 | l2 (x3:Int) (x4:List Int) (BX:Int) (A8:List Int) (Jd C0:Int)
def am (n:Nat) (self:PG -> Option Int) (g_:List (List Int)) (BX:Int):Option Int:=
 bif (decide (BX<(g_.length:Int))) then
  if 0<=BX/\ BX<(g_.length:Int) then
   self (.l2 BX (g_.getD ((BX).toNat) []) BX (g_.getD ((BX).toNat) []) (((g_.getD ((BX).toNat) []).length:Nat):Int) 0)
  else none
 else
  some 0
def V4 (n:Nat) (self:PG -> Option Int) (g_:List (List Int)) (x3:Int) (x4:List Int) (BX:Int) (A8:List Int) (Jd C0:Int):Option Int:=
 bif (decide (C0<Jd)) then
  if 0<=C0/\ C0<(A8.length:Int) then
   bif (decide ((A8.getD ((C0).toNat) 0)<0)) then
    some 120
   else
    bif (decide ((A8.getD ((C0).toNat) 0)>=(g_.length:Int))) then
     some 120
    else
     bif ((A8.getD ((C0).toNat) 0)==x3) then
      some 120
     else
      bif (decide (C0>0)) then
       if AI (C0-1)/\ (0<=(C0-1)/\ (C0-1)<(x4.length:Int)) then
        bif (decide ((x4.getD (((C0-1)).toNat) 0)>=(A8.getD ((C0).toNat) 0))) then
         some 120
        else
         if 0<=(A8.getD ((C0).toNat) 0)/\ (A8.getD ((C0).toNat) 0)<(g_.length:Int) then
          (Lo n (g_.getD ((A8.getD ((C0).toNat) 0).toNat) []) x3).bind fun y1=>
           bif (!y1) then
            some 120
           else
            if AI (C0+1) then
             self (.l2 x3 x4 BX A8 Jd (C0+1))
            else none
         else none
       else none
      else
       if 0<=(A8.getD ((C0).toNat) 0)/\ (A8.getD ((C0).toNat) 0)<(g_.length:Int) then
        (Lo n (g_.getD ((A8.getD ((C0).toNat) 0).toNat) []) x3).bind fun y1=>
         bif (!y1) then
          some 120
         else
          if AI (C0+1) then
           self (.l2 x3 x4 BX A8 Jd (C0+1))
          else none
       else none
  else none
 else
  if AI (BX+1) then
   self (.l1 (BX+1))
  else none
def kH (n:Nat) (self:PG -> Option Int) (g_:List (List Int)):Option Int:=
 bif (decide ((g_.length:Int)>256)) then
  some 120
 else
  self (.l1 0)
def Ih (g_:List (List Int)):Nat -> PG -> Option Int
 | 0,_=>none
 | n+1,.l1 BX=>am n (Ih g_ n) g_ BX
 | n+1,.l2 x3 x4 BX A8 Jd C0=>V4 n (Ih g_ n) g_ x3 x4 BX A8 Jd C0
def SI (n:Nat) (g_:List (List Int)):Option Int:=kH n (Ih g_ n) g_
def zo (n B:Nat) (N:Yd 0) (g_:List (List Int)) (r:Int):PG -> Prop
 | .l1 BX=>∀ m0:Nat,n<=m0 -> TW B N (FQ Tryz.f96 0 (.i r) []) (Ak m0 (Au (AZ Tryz.f96) 0 [])) ⟨AM 61 [(0,.sl 1 g_.length (As A4 g_)),(10,.sl 1 g_.length (As A4 g_)),(11,.i (g_.length:Int)),(12,.i BX)],[]⟩
 | .l2 x3 x4 BX A8 Jd C0=>∀ m0 m1:Nat,n<=m0 -> n<=m1 -> TW B N (FQ Tryz.f96 0 (.i r) []) (Ak m1 (Au (AZ Tryz.f96) 2 [m0])) ⟨AM 61 [(0,.sl 1 g_.length (As A4 g_)),(3,.i x3),(4,.ints x4),(10,.sl 1 g_.length (As A4 g_)),(11,.i (g_.length:Int)),(12,.i BX),(17,.ints A8),(18,.i Jd),(19,.i C0)],[]⟩
theorem zp (B:Nat) (N:Yd 0) (g_:List (List Int)):Al (Ih g_) (zo · B N g_):=ia (fun _=>rfl) fun n AG pt r h=>by
 cases pt
 case l1 BX=>
  intro m0 AC;refine rd AC fun m0 AC=>?_
  revert r;apply gO;exact bi 13 (gi (lN AE [] (AG _ _ · m0 n AC Nat.le.refl))) (lE AE [2] [])
 case l2 x3 x4 BX A8 Jd C0=>
  intro m0 m1 AC Am;have AC:=zDW AC;refine rd Am fun m1 Am=>?_
  revert r;apply gO;exact bi 20 (gi (bi 25 (lE AE [2] []) (bi 30 (lE AE [2] []) (bi 35 (lE AE [2] []) (bi 39 (gc (gw 43 (gi (bi 47 (lE AE [2] []) (gi (cf lK [] fun _=>bi 57 (lE AE [2] []) (gw 59 (lG AE [] (AG _ _ · m0 m1 AC Am))))))))) (gi (cf lK [] fun _=>bi 57 (lE AE [2] []) (gw 59 (lG AE [] (AG _ _ · m0 m1 AC Am)))))))))) (gw 60 (lG AE [] (AG _ _ · m0 AC)))
theorem kG {n:Nat} {g_:List (List Int)} {r:Int} (h:SI n g_=some r):EQ 96 [.sl 1 g_.length (As A4 g_)] [] (.i r) [] true:=by
 refine ot Tryz.func96 fun B N=>?_
 revert r;apply gO;exact bi 9 (lE AE [2] []) (lN AE [] ((zp B N g_ n) _ _ · n Nat.le.refl))
inductive WK where
 | l1 (x3:Int)
def WJ (n:Nat) (self:WK -> Option Bool) (q:AA) (x3:Int):Option Bool:=
 bif (decide (x3<(q.cons.length:Int))) then
  if 0<=x3/\ x3<(q.cons.length:Int) then
   bif (decide (((((q.cons.getD ((x3).toNat) default).cells).length:Nat):Int)>20)) then
    some false
   else
    bif (decide (((((q.cons.getD ((x3).toNat) default).runs).length:Nat):Int)>10)) then
     some false
    else
     if AI (x3+1) then
      self (.l1 (x3+1))
     else none
  else none
 else
  some true
def kU (n:Nat) (self:WK -> Option Bool) (q:AA):Option Bool:=
 bif (decide (q.cells>16)) then
  some false
 else
  bif (decide (q.symbols>6)) then
   some false
  else
   bif (decide ((q.values.length:Int)>8)) then
    some false
   else
    bif (decide ((q.nbrs.length:Int)>20)) then
     some false
    else
     bif (decide ((q.cons.length:Int)>120)) then
      some false
     else
      self (.l1 0)
def KR (q:AA):Nat -> WK -> Option Bool
 | 0,_=>none
 | n+1,.l1 x3=>WJ n (KR q n) q x3
def WL (n:Nat) (q:AA):Option Bool:=kU n (KR q n) q
def zAO (n B:Nat) (N:Yd 0) (q:AA) (r:Bool):WK -> Prop
 | .l1 x3=>∀ m0:Nat,n<=m0 -> TW B N (FQ Tryz.f56 0 (.bool r) []) (Ak m0 (Au (AZ Tryz.f56) 0 [])) ⟨AM 55 [(1,.ref 0 0),(3,.i x3)],[some (.cells (AD q))]⟩
theorem zAP (B:Nat) (N:Yd 0) (q:AA):Al (KR q) (zAO · B N q):=ia (fun _=>rfl) fun n AG pt r h=>by
 cases pt
 case l1 x3=>
  intro m0 AC;refine rd AC fun m0 AC=>?_
  revert r;apply gO;exact bi 34 (gn fun g0=>jg g0 (bi 44 (lE AE [2] []) (jg g0 (bi 53 (lE AE [2] []) (gw 36 (lG AE [0] (AG _ _ · m0 AC))))))) (lE AE [2] [])
theorem zAN {n:Nat} {q:AA} {r:Bool} (h:WL n q=some r):EQ 56 [.agg 5 (L1 (AD q))] [] (.bool r) [] true:=by
 refine ot Tryz.func56 fun B N=>?_
 revert r;apply gO;exact bi 6 (lE AE [2] []) (bi 10 (lE AE [2] []) (bi 16 (lE AE [2] []) (bi 22 (lE AE [2] []) (bi 28 (lE AE [2] []) (lN AE [0] ((zAP B N q n) _ _ · n Nat.le.refl))))))
end Go.Proofs.YtgkhhfnhacibcaaGreatDoor
namespace Go.Proofs.YtgkhhfnhacibcaaGreatDoor
open Go.RowKit
set_option maxRecDepth 100000
set_option maxHeartbeats 40000000
def cZ (n:Nat) (v lo hi:Int):Option Bool:=
 bif (decide (v<lo)) then
  some true
 else
  some (decide (v>hi))
def XG (n:Nat) (v lo hi:Int):Option Bool:=cZ n v lo hi
theorem nH {n:Nat} {v lo hi:Int} {r:Bool} (h:XG n v lo hi=some r):EQ 118 [.i v,.fp 1 (L1 [.i lo]),.fp 1 (L1 [.i hi])] [] (.bool r) [] true:=by
 refine ot Tryz.func118 fun B N=>?_
 revert r;apply gO;exact bi 7 (lE AE [4] []) (lE AE [4] [])
inductive VO where
 | l1 (x8:Int)
def ZJ (n:Nat) (self:VO -> Option Int) (l:List Int) (lo hi:Int) (x8:Int):Option Int:=
 bif (decide (x8<(l.length:Int))) then
  if 0<=x8/\ x8<(l.length:Int) then
   (XG n (l.getD ((x8).toNat) 0) lo hi).bind fun y1=>
    bif y1 then
     some x8
    else
     if AI (x8+1) then
      self (.l1 (x8+1))
     else none
  else none
 else
  some (-1)
def io (n:Nat) (self:VO -> Option Int) (l:List Int) (lo hi:Int):Option Int:=
 self (.l1 0)
def Mw (l:List Int) (lo hi:Int):Nat -> VO -> Option Int
 | 0,_=>none
 | n+1,.l1 x8=>ZJ n (Mw l lo hi n) l lo hi x8
def VQ (n:Nat) (l:List Int) (lo hi:Int):Option Int:=io n (Mw l lo hi n) l lo hi
def vd (n B:Nat) (N:Yd 0) (l:List Int) (lo hi:Int) (r:Int):VO -> Prop
 | .l1 x8=>∀ m0:Nat,n<=m0 -> TW B N (FQ Tryz.f41 0 (.i r) []) (Ak m0 (Au (AZ Tryz.f41) 0 [])) ⟨AM 19 [(0,.ints l),(1,.fn 118 2 (L1 [.fp 1 (L1 [.i lo]),.fp 1 (L1 [.i hi])])),(7,.i (l.length:Int)),(8,.i x8)],[]⟩
theorem ve (B:Nat) (N:Yd 0) (l:List Int) (lo hi:Int):Al (Mw l lo hi) (vd · B N l lo hi):=ia (fun _=>rfl) fun n AG pt r h=>by
 cases pt
 case l1 x8=>
  intro m0 AC;refine rd AC fun m0 AC=>?_
  revert r;apply gO;exact bi 9 (gi (cf nH [] fun _=>bi 16 (lE AE [4] []) (gw 18 (lG AE [] (AG _ _ · m0 AC))))) (lE AE [4] [])
theorem va {n:Nat} {l:List Int} {lo hi:Int} {r:Int} (h:VQ n l lo hi=some r):EQ 41 [.ints l,.fn 118 2 (L1 [.fp 1 (L1 [.i lo]),.fp 1 (L1 [.i hi])])] [] (.i r) [] true:=by
 refine ot Tryz.func41 fun B N=>?_
 revert r;apply gO;exact lN AE [] ((ve B N l lo hi n) _ _ · n Nat.le.refl)
def bF (n:Nat) (l:List Int) (lo hi:Int):Option Bool:=
 (VQ n l lo hi).bind fun y1=>
  some (decide (y1>=0))
def Wd (n:Nat) (l:List Int) (lo hi:Int):Option Bool:=bF n l lo hi
theorem zBI {n:Nat} {l:List Int} {lo hi:Int} {r:Bool} (h:Wd n l lo hi=some r):EQ 48 [.ints l,.fn 118 2 (L1 [.fp 1 (L1 [.i lo]),.fp 1 (L1 [.i hi])])] [] (.bool r) [] true:=by
 unfold Wd bF at h;refine ot Tryz.func48 fun B N=>?_
 revert r;apply gO;exact cf va [] fun _=>lE AE [4] []
def YC (n:Nat) (l_:List Int) (lo hi:Int):Option Bool:=
 (Wd n l_ lo hi).bind fun y1=>
  some (!y1)
def K9 (n:Nat) (l_:List Int) (lo hi:Int):Option Bool:=YC n l_ lo hi
theorem UQ {n:Nat} {l_:List Int} {lo hi:Int} {r:Bool} (h:K9 n l_ lo hi=some r):EQ 95 [.ints l_,.i lo,.i hi] [] (.bool r) [] true:=by
 unfold K9 YC at h;refine ot Tryz.func95 fun B N=>?_
 revert r;apply gO;exact cn fun y1 A0=>jc (sb [.ints l_,.fn 118 2 (L1 [.ref 0 0,.ref 1 0])] (zBI A0) [some (.cells [.i lo]),some (.cells [.i hi])] ⟨AR.plain (by kernel_rfl),(AR.fnL (l:=[.ref 0 0,.ref 1 0]) (l0:=[.fp 1 (L1 [.i lo]),.fp 1 (L1 [.i hi])]) ⟨(AR.refL (l:=[.i lo]) (l0:=[.i lo]) rfl ⟨AR.plain (by kernel_rfl),trivial⟩),(AR.refL (l:=[.i hi]) (l0:=[.i hi]) rfl ⟨AR.plain (by kernel_rfl),trivial⟩),trivial⟩),trivial⟩) (lE AE [6] [])
theorem qH:At (BA Tryz.f98 24) [([0,1,2,3,5,6,7,8],4),([],9),([10,11,12,13,14],15),([],16),([17,18,19,20,21,22,23,24,25,26],27)] [28,29] []:=by unfold At;kernel_rfl
def DY:Bb:=fun i=>match i with
 | 24=>.ord [([0,1,2,3,5,6,7,8],4),([],9),([10,11,12,13,14],15),([],16),([17,18,19,20,21,22,23,24,25,26],27)] [28,29] []
 | _=>.no
def jM (q:AA) (c_:AB):DH:=[some (.cells (AD q)),some (.cells (AH c_)),some (.ints ([c_.set,c_.other]:List Int)),some (.ints ([c_.lo,c_.hi]:List Int))]
inductive Lg where
 | l1 (Af:Int) (o2:List Bool)
 | l2
def SO (n:Nat) (self:Lg -> Option Bool) (q:AA) (c_:AB) (Af:Int) (o2:List Bool):Option Bool:=
 bif (decide (Af<(c_.cells.length:Int))) then
  if 0<=Af/\ Af<(c_.cells.length:Int) then
   bif (decide ((c_.cells.getD ((Af).toNat) 0)<0)) then
    some false
   else
    bif (decide ((c_.cells.getD ((Af).toNat) 0)>=q.cells)) then
     some false
    else
     if (0<=(c_.cells.getD ((Af).toNat) 0)/\ (c_.cells.getD ((Af).toNat) 0)<((256:Nat):Int))/\ 0+((c_.cells.getD ((Af).toNat) 0).toNat)<o2.length then
      bif (o2.getD (0+((c_.cells.getD ((Af).toNat) 0).toNat)) false) then
       some false
      else
       bif (decide (c_.kind>=8)) then
        bif ((c_.cells.getD ((Af).toNat) 0) != Af) then
         some false
        else
         if AI (Af+1) then
          self (.l1 (Af+1) (o2.set (0+((c_.cells.getD ((Af).toNat) 0).toNat)) true))
         else none
       else
        if AI (Af+1) then
         self (.l1 (Af+1) (o2.set (0+((c_.cells.getD ((Af).toNat) 0).toNat)) true))
        else none
     else none
  else none
 else
  bif (c_.kind==1) then
   self (.l2)
  else
   bif (c_.kind==2) then
    self (.l2)
   else
    bif (c_.kind==3) then
     self (.l2)
    else
     bif (c_.kind==4) then
      self (.l2)
     else
      bif (c_.kind==5) then
       self (.l2)
      else
       bif (c_.kind==6) then
        bif ((c_.cells.length:Int) != 2) then
         some false
        else
         self (.l2)
       else
        bif (c_.kind==7) then
         bif ((c_.cells.length:Int) != 2) then
          some false
         else
          self (.l2)
        else
         bif (c_.kind==8) then
          bif ((c_.cells.length:Int) != q.cells) then
           some false
          else
           self (.l2)
         else
          bif (c_.kind==9) then
           bif ((c_.cells.length:Int) != q.cells) then
            some false
           else
            self (.l2)
          else
           some false
def WE (n:Nat) (self:Lg -> Option Bool) (q:AA) (c_:AB):Option Bool:=
 if (0<=q.symbols/\ q.symbols<=(IntKind.i64.bits:Int))/\ AI ((IntKind.i64.wrap (1*2 ^ (q.symbols).toNat))-1) then
  (K9 n ([c_.set,c_.other]:List Int) 0 ((IntKind.i64.wrap (1*2 ^ (q.symbols).toNat))-1)).bind fun y1=>
   bif y1 then
    (K9 n ([c_.lo,c_.hi]:List Int) 0 65536).bind fun y2=>
     bif y2 then
      bif (decide ((c_.runs.length:Int)<=8)) then
       (K9 n c_.runs 1 256).bind fun y3=>
        some y3
      else
       some false
     else
      some false
   else
    some false
 else none
def kR (n:Nat) (self:Lg -> Option Bool) (q:AA) (c_:AB):Option Bool:=
 self (.l1 0 (List.replicate 256 false))
def PL (q:AA) (c_:AB):Nat -> Lg -> Option Bool
 | 0,_=>none
 | n+1,.l1 Af o2=>SO n (PL q c_ n) q c_ Af o2
 | n+1,.l2=>WE n (PL q c_ n) q c_
def WF (n:Nat) (q:AA) (c_:AB):Option Bool:=kR n (PL q c_ n) q c_
def zAE (n B:Nat) (N:Yd 0) (q:AA) (c_:AB) (r:Bool):Lg -> Prop
 | .l1 Af o2=>∀ m0:Nat,n<=m0 -> TW B N (FQ Tryz.f98 0 (.bool r) []) (Ak m0 (Au (AZ Tryz.f98) 0 [])) ⟨AM 95 [(2,.ref 0 0),(3,.ref 1 0),(5,.mp 2 1 0 0),(9,.ints c_.cells),(10,.i (c_.cells.length:Int)),(11,.i Af)],[some (.cells (AD q)),some (.cells (AH c_)),some (.bools o2)]⟩
 | .l2=>TW B N (FQ Tryz.f98 0 (.bool r) []) (GQ (AZ Tryz.f98) 24 []) ⟨AM 95 [(2,.ref 0 0),(3,.ref 1 0)],[some (.cells (AD q)),some (.cells (AH c_))]⟩
theorem zAF (B:Nat) (N:Yd 0) (q:AA) (c_:AB):Al (PL q c_) (zAE · B N q c_):=ia (fun _=>rfl) fun n AG pt r h=>by
 cases pt
 case l1 Af o2=>
  intro m0 AC;refine rd AC fun m0 AC=>?_
  revert r;apply gO;exact bi 12 (gi (bi 17 (lE (BS 24 DY) [4] []) (bi 22 (lE (BS 24 DY) [4] []) (gc (gn fun g1=>jg g1 (gn fun g2=>jg g2 (bi 27 (lE (BS 24 DY) [4] []) (bi 32 (bi 36 (lE (BS 24 DY) [4] []) (jg g1 (jg g2 (gw 41 (lG (BS 24 DY) [0,1,2] (AG _ _ · m0 AC)))))) (jg g1 (jg g2 (gw 41 (lG (BS 24 DY) [0,1,2] (AG _ _ · m0 AC))))))))))))) (bi 45 (lG (BS 24 DY) [0,1] (AG _ _ ·)) (bi 46 (lG (BS 24 DY) [0,1] (AG _ _ ·)) (bi 47 (lG (BS 24 DY) [0,1] (AG _ _ ·)) (bi 48 (lG (BS 24 DY) [0,1] (AG _ _ ·)) (bi 49 (lG (BS 24 DY) [0,1] (AG _ _ ·)) (bi 51 (bi 56 (lE (BS 24 DY) [4] []) (lG (BS 24 DY) [0,1] (AG _ _ ·))) (bi 52 (bi 56 (lE (BS 24 DY) [4] []) (lG (BS 24 DY) [0,1] (AG _ _ ·))) (bi 58 (bi 65 (lE (BS 24 DY) [4] []) (lG (BS 24 DY) [0,1] (AG _ _ ·))) (bi 59 (bi 65 (lE (BS 24 DY) [4] []) (lG (BS 24 DY) [0,1] (AG _ _ ·))) (lE (BS 24 DY) [4] []))))))))))
 case l2=>
  revert r;apply gO;exact jg qH (gc (gi (gw 74 (cn fun y1 A0=>jc (sb [.msl 2 1 0 2,.i 0,.i ((IntKind.i64.wrap (1*2 ^ (q.symbols).toNat))-1)] (UQ A0) [some (.cells (AD q)),some (.cells (AH c_)),some (.ints ([c_.set,c_.other]:List Int))] ⟨AR.ints rfl (Eq.refl 2),AR.plain (by kernel_rfl),AR.plain (by kernel_rfl),trivial⟩) (bi 75 (cn fun y2 Bt=>jc (sb [.msl 3 1 0 2,.i 0,.i 65536] (UQ Bt) (jM q c_) ⟨AR.ints rfl (Eq.refl 2),AR.plain (by kernel_rfl),AR.plain (by kernel_rfl),trivial⟩) (bi 82 (bi 88 (cf UQ (jM q c_) fun _=>lE DY [4] []) (lE DY [4] [])) (lE DY [4] []))) (lE DY [4] []))))))
theorem zAC {n:Nat} {q:AA} {c_:AB} {r:Bool} (h:WF n q c_=some r):EQ 98 [.agg 5 (L1 (AD q)),.agg 9 (L1 (AH c_))] [] (.bool r) [] true:=by
 refine ot Tryz.func98 fun B N=>?_
 revert r;apply gO;exact lN (BS 24 DY) [0,1,2] ((zAF B N q c_ n) _ _ · n Nat.le.refl)
def XQ (n:Nat) (c:AB) (q:AA):Option Bool:=
 (WF n q c).bind fun y1=>
  some (!y1)
def TX (n:Nat) (c:AB) (q:AA):Option Bool:=XQ n c q
theorem nX {n:Nat} {c:AB} {q:AA} {r:Bool} (h:TX n c q=some r):EQ 97 [.agg 9 (L1 (AH c)),.fp 5 (L1 (AD q))] [] (.bool r) [] true:=by
 unfold TX XQ at h;refine ot Tryz.func97 fun B N=>?_
 revert r;apply gO;exact cf zAC [some (.cells (AH c))] fun _=>lE AE [3] []
inductive VL where
 | l1 (x8:Int)
def VK (n:Nat) (self:VL -> Option Int) (l:List AB) (q:AA) (x8:Int):Option Int:=
 bif (decide (x8<(l.length:Int))) then
  if 0<=x8/\ x8<(l.length:Int) then
   (TX n (l.getD ((x8).toNat) default) q).bind fun y1=>
    bif y1 then
     some x8
    else
     if AI (x8+1) then
      self (.l1 (x8+1))
     else none
  else none
 else
  some (-1)
def il (n:Nat) (self:VL -> Option Int) (l:List AB) (q:AA):Option Int:=
 self (.l1 0)
def LP (l:List AB) (q:AA):Nat -> VL -> Option Int
 | 0,_=>none
 | n+1,.l1 x8=>VK n (LP l q n) l q x8
def VM (n:Nat) (l:List AB) (q:AA):Option Int:=il n (LP l q n) l q
def vU (n B:Nat) (N:Yd 0) (l:List AB) (q:AA) (r:Int):VL -> Prop
 | .l1 x8=>∀ m0:Nat,n<=m0 -> TW B N (FQ Tryz.f92 0 (.i r) []) (Ak m0 (Au (AZ Tryz.f92) 0 [])) ⟨AM 19 [(0,.sl 9 l.length (As AH l)),(1,.fn 97 1 (L1 [.fp 5 (L1 (AD q))])),(7,.i (l.length:Int)),(8,.i x8)],[]⟩
theorem vV (B:Nat) (N:Yd 0) (l:List AB) (q:AA):Al (LP l q) (vU · B N l q):=ia (fun _=>rfl) fun n AG pt r h=>by
 cases pt
 case l1 x8=>
  intro m0 AC;refine rd AC fun m0 AC=>?_
  revert r;apply gO;exact bi 9 (gi (cf nX [] fun _=>bi 16 (lE AE [4] []) (gw 18 (lG AE [] (AG _ _ · m0 AC))))) (lE AE [4] [])
theorem vS {n:Nat} {l:List AB} {q:AA} {r:Int} (h:VM n l q=some r):EQ 92 [.sl 9 l.length (As AH l),.fn 97 1 (L1 [.fp 5 (L1 (AD q))])] [] (.i r) [] true:=by
 refine ot Tryz.func92 fun B N=>?_
 revert r;apply gO;exact lN AE [] ((vV B N l q n) _ _ · n Nat.le.refl)
def bD (n:Nat) (l:List AB) (q:AA):Option Bool:=
 (VM n l q).bind fun y1=>
  some (decide (y1>=0))
def Wb (n:Nat) (l:List AB) (q:AA):Option Bool:=bD n l q
theorem zBG {n:Nat} {l:List AB} {q:AA} {r:Bool} (h:Wb n l q=some r):EQ 61 [.sl 9 l.length (As AH l),.fn 97 1 (L1 [.fp 5 (L1 (AD q))])] [] (.bool r) [] true:=by
 unfold Wb bD at h;refine ot Tryz.func61 fun B N=>?_
 revert r;apply gO;exact cf vS [] fun _=>lE AE [4] []
def cg (n:Nat) (q:AA):Option Int:=
 bif (decide (q.cells<1)) then
  some 191
 else
  bif (decide (q.cells>256)) then
   some 191
  else
   bif (decide (q.symbols<1)) then
    some 191
   else
    bif (decide (q.symbols>16)) then
     some 191
    else
     bif ((q.values.length:Int) != q.symbols) then
      some 191
     else
      (K9 n q.values 0 99).bind fun y1=>
       bif (!y1) then
        some 191
       else
        bif ((q.nbrs.length:Int) != q.cells) then
         some 191
        else
         (SI n q.nbrs).bind fun y2=>
          bif (y2 != 0) then
           some 191
          else
           bif (decide ((q.cons.length:Int)>4096)) then
            some 191
           else
            (Wb n q.cons q).bind fun y3=>
             bif y3 then
              some 191
             else
              some 0
def valid (n:Nat) (q:AA):Option Int:=cg n q
theorem XJ {n:Nat} {q:AA} {r:Int} (h:valid n q=some r):EQ 67 [.agg 5 (L1 (AD q))] [] (.i r) [] true:=by
 refine ot Tryz.func67 fun B N=>?_
 revert r;apply gO;exact bi 5 (lE AE [2] []) (bi 9 (lE AE [2] []) (bi 14 (lE AE [2] []) (bi 19 (lE AE [2] []) (bi 27 (lE AE [2] []) (cf UQ [some (.cells (AD q))] fun _=>bi 33 (lE AE [2] []) (bi 40 (lE AE [2] []) (cf kG [some (.cells (AD q))] fun _=>bi 45 (lE AE [2] []) (bi 51 (lE AE [2] []) (cn fun y3 KB=>jc (sb [.sl 9 q.cons.length (As AH q.cons),.fn 97 1 (L1 [.ref 0 0])] (zBG KB) [some (.cells (AD q))] ⟨AR.plain (by kernel_rfl),(AR.fnL (l:=[.ref 0 0]) (l0:=[.fp 5 (L1 (AD q))]) ⟨(AR.refL (l:=(AD q)) (l0:=(AD q)) rfl ⟨AR.plain (by kernel_rfl),AR.plain (by kernel_rfl),AR.plain (by kernel_rfl),AR.plain (by kernel_rfl),AR.plain (by kernel_rfl),trivial⟩),trivial⟩),trivial⟩) (bi 56 (lE AE [2] []) (lE AE [2] [])))))))))))
def Yw (n:Nat) (q:AA) (i:Int):Option (Int×Int):=
 (valid n q).bind fun y1=>
  bif (y1 != 0) then
   some (0,y1)
  else
   bif (decide (i<0)) then
    some (0,260)
   else
    bif (decide (i>=(q.cons.length:Int))) then
     some (0,260)
    else
     if (0<=i/\ i<(q.cons.length:Int))/\ ((0:Int)<=((q.cons.getD ((i).toNat) default).kind)/\ ((q.cons.getD ((i).toNat) default).kind)<((10:Nat):Int)) then
      some (([0,1,1,2,2,3,1,1,4,4]:List Int).getD ((q.cons.getD ((i).toNat) default).kind).toNat 0,0)
     else none
def Ms (n:Nat) (q:AA) (i:Int):Option (Int×Int):=Yw n q i
theorem Yv {n:Nat} {q:AA} {i:Int} {r:Int×Int} (h:Ms n q i=some r):EQ 53 [.agg 5 (L1 (AD q)),.i i] [] (.tup 2 (L1 [.i r.1,.i r.2])) [] true:=by
 unfold Ms Yw at h;refine ot Tryz.func53 fun B N=>?_
 revert r;apply gO;exact cf XJ [some (.cells (AD q))] fun _=>bi 10 (lE AE [4,5] []) (bi 13 (lE AE [4,5] []) (bi 19 (lE AE [4,5] []) (gc (gi (gn fun g1=>jg g1 (jo 28 (AQ.ixI [0,1,1,2,2,3,1,1,4,4] rfl g1) (lE AE [4,5] [])))))))
inductive UG where
 | l1 (x7:Int)
def Ql (n:Nat) (self:UG -> Option Bool) (c_:AB) (cells symbols:Int) (x7:Int):Option Bool:=
 bif (decide (x7<(c_.cells.length:Int))) then
  bif (c_.kind==8) then
   if 0<=x7/\ x7<(c_.cells.length:Int) then
    bif ((c_.cells.getD ((x7).toNat) 0) != x7) then
     some false
    else
     if AI (x7+1) then
      self (.l1 (x7+1))
     else none
   else none
  else
   bif (c_.kind==9) then
    if 0<=x7/\ x7<(c_.cells.length:Int) then
     bif ((c_.cells.getD ((x7).toNat) 0) != x7) then
      some false
     else
      if AI (x7+1) then
       self (.l1 (x7+1))
      else none
    else none
   else
    if AI (x7+1) then
     self (.l1 (x7+1))
    else none
 else
  if (0<=symbols/\ symbols<=(IntKind.i64.bits:Int))/\ AI ((IntKind.i64.wrap (1*2 ^ (symbols).toNat))-1) then
   (Lq n ([c_.set,c_.other]:List Int) 0 ((IntKind.i64.wrap (1*2 ^ (symbols).toNat))-1)).bind fun y1=>
    bif y1 then
     (Lq n ([c_.lo,c_.hi]:List Int) 0 65536).bind fun y2=>
      bif y2 then
       bif (decide ((c_.runs.length:Int)<=8)) then
        (Lq n c_.runs 1 256).bind fun y3=>
         some y3
       else
        some false
      else
       some false
    else
     some false
  else none
def fQ (n:Nat) (self:UG -> Option Bool) (c_:AB) (cells symbols:Int):Option Bool:=
 bif (decide (c_.kind<1)) then
  some false
 else
  bif (decide (c_.kind>9)) then
   some false
  else
   bif (decide ((c_.cells.length:Int)>cells)) then
    some false
   else
    if AI (cells-1) then
     (Lq n c_.cells 0 (cells-1)).bind fun y1=>
      bif (!y1) then
       some false
      else
       (WV n c_.cells).bind fun y2=>
        bif (!y2) then
         some false
        else
         bif (c_.kind==6) then
          bif ((c_.cells.length:Int) != 2) then
           some false
          else
           bif (c_.kind==8) then
            bif ((c_.cells.length:Int) != cells) then
             some false
            else
             self (.l1 0)
           else
            bif (c_.kind==9) then
             bif ((c_.cells.length:Int) != cells) then
              some false
             else
              self (.l1 0)
            else
             self (.l1 0)
         else
          bif (c_.kind==7) then
           bif ((c_.cells.length:Int) != 2) then
            some false
           else
            bif (c_.kind==8) then
             bif ((c_.cells.length:Int) != cells) then
              some false
             else
              self (.l1 0)
            else
             bif (c_.kind==9) then
              bif ((c_.cells.length:Int) != cells) then
               some false
              else
               self (.l1 0)
             else
              self (.l1 0)
          else
           bif (c_.kind==8) then
            bif ((c_.cells.length:Int) != cells) then
             some false
            else
             self (.l1 0)
           else
            bif (c_.kind==9) then
             bif ((c_.cells.length:Int) != cells) then
              some false
             else
              self (.l1 0)
            else
             self (.l1 0)
    else none
def K8 (c_:AB) (cells symbols:Int):Nat -> UG -> Option Bool
 | 0,_=>none
 | n+1,.l1 x7=>Ql n (K8 c_ cells symbols n) c_ cells symbols x7
def UI (n:Nat) (c_:AB) (cells symbols:Int):Option Bool:=fQ n (K8 c_ cells symbols n) c_ cells symbols
def ro (n B:Nat) (N:Yd 0) (c_:AB) (cells symbols:Int) (r:Bool):UG -> Prop
 | .l1 x7=>∀ m0:Nat,n<=m0 -> TW B N (FQ Tryz.f66 0 (.bool r) []) (Ak m0 (Au (AZ Tryz.f66) 0 [])) ⟨AM 120 [(2,.i symbols),(3,.ref 0 0),(7,.i x7)],[some (.cells (AH c_))]⟩
theorem rp (B:Nat) (N:Yd 0) (c_:AB) (cells symbols:Int):Al (K8 c_ cells symbols) (ro · B N c_ cells symbols):=ia (fun _=>rfl) fun n AG pt r h=>by
 cases pt
 case l1 x7=>
  intro m0 AC;refine rd AC fun m0 AC=>?_
  revert r;apply gO;exact bi 71 (bi 76 (gi (bi 89 (lE AE [6] []) (gw 73 (lG AE [0] (AG _ _ · m0 AC))))) (bi 80 (gi (bi 89 (lE AE [6] []) (gw 73 (lG AE [0] (AG _ _ · m0 AC))))) (gw 73 (lG AE [0] (AG _ _ · m0 AC))))) (gc (gi (gw 93 (cn fun y1 A0=>jc (sb [.msl 1 1 0 2,.i 0,.i ((IntKind.i64.wrap (1*2 ^ (symbols).toNat))-1)] (S6 A0) [some (.cells (AH c_)),some (.ints ([c_.set,c_.other]:List Int))] ⟨AR.ints rfl (Eq.refl 2),AR.plain (by kernel_rfl),AR.plain (by kernel_rfl),trivial⟩) (bi 100 (cn fun y2 Bt=>jc (sb [.msl 2 1 0 2,.i 0,.i 65536] (S6 Bt) [some (.cells (AH c_)),some (.ints ([c_.set,c_.other]:List Int)),some (.ints ([c_.lo,c_.hi]:List Int))] ⟨AR.ints rfl (Eq.refl 2),AR.plain (by kernel_rfl),AR.plain (by kernel_rfl),trivial⟩) (bi 107 (bi 113 (cf S6 [some (.cells (AH c_)),some (.ints ([c_.set,c_.other]:List Int)),some (.ints ([c_.lo,c_.hi]:List Int))] fun _=>lE AE [6] []) (lE AE [6] [])) (lE AE [6] []))) (lE AE [6] []))))))
theorem rh {n:Nat} {c_:AB} {cells symbols:Int} {r:Bool} (h:UI n c_ cells symbols=some r):EQ 66 [.agg 9 (L1 (AH c_)),.i cells,.i symbols] [] (.bool r) [] true:=by
 have AG:=fun B N=>(rp B N c_ cells symbols n)
 refine ot Tryz.func66 fun B N=>?_
 revert r;apply gO;exact bi 11 (lE AE [6] []) (bi 15 (lE AE [6] []) (bi 22 (lE AE [6] []) (gw 28 (cf S6 [some (.cells (AH c_))] fun _=>bi 30 (lE AE [6] []) (cf zAg [some (.cells (AH c_))] fun _=>bi 36 (lE AE [6] []) (bi 40 (bi 50 (lE AE [6] []) (bi 54 (bi 65 (lE AE [6] []) (lN AE [0] ((AG B N) _ _ · n Nat.le.refl))) (bi 58 (bi 65 (lE AE [6] []) (lN AE [0] ((AG B N) _ _ · n Nat.le.refl))) (lN AE [0] ((AG B N) _ _ · n Nat.le.refl))))) (bi 44 (bi 50 (lE AE [6] []) (bi 54 (bi 65 (lE AE [6] []) (lN AE [0] ((AG B N) _ _ · n Nat.le.refl))) (bi 58 (bi 65 (lE AE [6] []) (lN AE [0] ((AG B N) _ _ · n Nat.le.refl))) (lN AE [0] ((AG B N) _ _ · n Nat.le.refl))))) (bi 54 (bi 65 (lE AE [6] []) (lN AE [0] ((AG B N) _ _ · n Nat.le.refl))) (bi 58 (bi 65 (lE AE [6] []) (lN AE [0] ((AG B N) _ _ · n Nat.le.refl))) (lN AE [0] ((AG B N) _ _ · n Nat.le.refl)))))))))))
theorem pX:At (BA Tryz.f35 8) [([0,1,2,3,4,5,6,7,8],9)] [10] []:=by unfold At;kernel_rfl
def Gu:Bb:=fun i=>match i with
 | 8=>.ord [([0,1,2,3,4,5,6,7,8],9)] [10] []
 | _=>.no
inductive Tz where
 | l1 (x3:Int)
def Ty (n:Nat) (self:Tz -> Option Int) (q:AA) (x3:Int):Option Int:=
 bif (decide (x3<(q.cons.length:Int))) then
  if 0<=x3/\ x3<(q.cons.length:Int) then
   (UI n (q.cons.getD ((x3).toNat) default) q.cells q.symbols).bind fun y1=>
    bif (!y1) then
     some 191
    else
     if AI (x3+1) then
      self (.l1 (x3+1))
     else none
  else none
 else
  some 0
def eU (n:Nat) (self:Tz -> Option Int) (q:AA):Option Int:=
 bif (decide (q.cells<1)) then
  some 191
 else
  bif (decide (q.cells>256)) then
   some 191
  else
   bif (decide (q.symbols<1)) then
    some 191
   else
    bif (decide (q.symbols>16)) then
     some 191
    else
     bif ((q.values.length:Int) != q.symbols) then
      some 191
     else
      (Lq n q.values 0 99).bind fun y1=>
       bif (!y1) then
        some 191
       else
        bif ((q.nbrs.length:Int) != q.cells) then
         some 191
        else
         (UP n q.nbrs).bind fun y2=>
          bif (y2 != 0) then
           some 191
          else
           bif (decide ((q.cons.length:Int)>4096)) then
            some 191
           else
            self (.l1 0)
def K1 (q:AA):Nat -> Tz -> Option Int
 | 0,_=>none
 | n+1,.l1 x3=>Ty n (K1 q n) q x3
def QR (n:Nat) (q:AA):Option Int:=eU n (K1 q n) q
def qV (n B:Nat) (N:Yd 0) (q:AA) (r:Int):Tz -> Prop
 | .l1 x3=>∀ m0:Nat,n<=m0 -> TW B N (FQ Tryz.f35 0 (.i r) []) (Ak m0 (Au (AZ Tryz.f35) 0 [])) ⟨AM 72 [(1,.ref 0 0),(3,.i x3)],[some (.cells (AD q))]⟩
theorem qW (B:Nat) (N:Yd 0) (q:AA):Al (K1 q) (qV · B N q):=ia (fun _=>rfl) fun n AG pt r h=>by
 cases pt
 case l1 x3=>
  intro m0 AC;refine rd AC fun m0 AC=>?_
  revert r;apply gO;exact bi 58 (jg pX (gi (cf rh [some (.cells (AD q))] fun _=>bi 71 (lE Gu [2] []) (gw 60 (lG Gu [0] (AG _ _ · m0 AC)))))) (lE Gu [2] [])
theorem eT {n:Nat} {q:AA} {r:Int} (h:QR n q=some r):EQ 35 [.agg 5 (L1 (AD q))] [] (.i r) [] true:=by
 refine ot Tryz.func35 fun B N=>?_
 revert r;apply gO;exact bi 6 (lE Gu [2] []) (bi 10 (lE Gu [2] []) (bi 15 (lE Gu [2] []) (bi 20 (lE Gu [2] []) (bi 28 (lE Gu [2] []) (cf S6 [some (.cells (AD q))] fun _=>bi 34 (lE Gu [2] []) (bi 41 (lE Gu [2] []) (cf sO [some (.cells (AD q))] fun _=>bi 46 (lE Gu [2] []) (bi 52 (lE Gu [2] []) (lN Gu [0] ((qW B N q n) _ _ · n Nat.le.refl))))))))))
def aq (n:Nat) (q:AA) (pos:List Int):Option Bool:=
 (WL n q).bind fun y1=>
  bif y1 then
   some (decide ((pos.length:Int)<=20))
  else
   some false
def SQ (n:Nat) (q:AA) (pos:List Int):Option Bool:=aq n q pos
theorem zAL {n:Nat} {q:AA} {pos:List Int} {r:Bool} (h:SQ n q pos=some r):EQ 23 [.agg 5 (L1 (AD q)),.ints pos] [] (.bool r) [] true:=by
 unfold SQ aq at h;refine ot Tryz.func23 fun B N=>?_
 revert r;apply gO;exact cf zAN [some (.cells (AD q))] fun _=>bi 6 (lE AE [4] []) (lE AE [4] [])
end Go.Proofs.YtgkhhfnhacibcaaGreatDoor
namespace Go.Proofs.YtgkhhfnhacibcaaGreatDoor
abbrev zAZ:=@decide_eq_false
abbrev zAc:=@cond_false
abbrev zCi:=@Int.toNat_natCast
abbrev zCk:=@cond_true
abbrev zC5:=@List.getElem_mem
abbrev zDV:=@beq_eq_false_iff_ne
abbrev zDd:=@Bool.not_false
abbrev zDk:=@Int.natCast_nonneg
abbrev zDo:=@decide_eq_false_iff_not
abbrev zDu:=@decide_true
abbrev zD9:=@Bool.or_false
abbrev zEI:=@and_self
abbrev zEN:=@Int.eq_ofNat_of_zero_le
abbrev zEa:=@Bool.eq_false_iff
abbrev zEb:=@List.range_eq_range'
abbrev zEc:=@List.exists_of_findSome?_eq_some
abbrev zEr:=@List.findSome?_eq_none_iff
abbrev zE4:=@List.pairwise_iff_getElem
abbrev zE5:=@List.mem_take_iff_getElem
abbrev zE9:=@List.length_erase_of_mem
abbrev zFP:=@List.range'_succ
abbrev zFS:=@Bool.or_eq_false_iff
end Go.Proofs.YtgkhhfnhacibcaaGreatDoor
namespace Go.Proofs.YtgkhhfnhacibcaaGreatDoor
def IW (lo hi:Int) (n:Int):Bool:=decide (lo<=n)&&decide (n<=hi)
def CZ (xs:List Int) (lo hi:Int):Bool:=xs.all (IW lo hi)
def Ey (g:List (List Int)) (i:Nat) (l:List Int) (k:Nat):Bool:=
 let n:=l.getD k 0
 decide (0<=n)&&decide (n<g.length)&&(n != i)&&(!decide (0<k)||decide (l.getD (k-1) 0<n))&&(g.getD n.toNat []).contains (i:Int)
def Gv (g:List (List Int)) (i:Nat) (l:List Int):Bool:=(List.range l.length).all (Ey g i l)
def Hu (g:List (List Int)):Bool:=decide (g.length<=256)&&(List.range g.length).all fun i=>Gv g i (g.getD i [])
def NZ (n kind:Int) (cells:List Int) (i:Nat):Bool:=
 let x:=cells.getD i 0
 decide (0<=x)&&decide (x<n)&&!(cells.take i).contains x&&(!decide (8<=kind)||x==(i:Int))
def Wn (n kind:Int) (cells:List Int):Bool:=(List.range cells.length).all (NZ n kind cells)
def Fc (n kind:Int) (len:Nat):Bool:=
 (decide (1<=kind)&&decide (kind<=5))||((kind==6||kind==7)&&len==2)||((kind==8||kind==9)&&(len:Int)==n)
def DE (q:AA) (c:AB):Bool:=
 Wn q.cells c.kind c.cells&&Fc q.cells c.kind c.cells.length&&
 CZ [c.set,c.other] 0 (2 ^ q.symbols.toNat-1)&&CZ [c.lo,c.hi] 0 65536&&decide (c.runs.length<=8)&&CZ c.runs 1 256
def Mi (l:List Int):Bool:=(List.range l.length).all fun i=>!(l.take i).contains (l.getD i 0)
def UH (c:AB) (n sy:Int):Bool:=
 (decide (1<=c.kind)&&decide (c.kind<=9))&&decide ((c.cells.length:Int)<=n)&&CZ c.cells 0 (n-1)&&Mi c.cells&&
 (!(c.kind==6||c.kind==7)||c.cells.length==2)&&(!(c.kind==8||c.kind==9)||((c.cells.length:Int)==n))&&
 (!(c.kind==8||c.kind==9)||(List.range c.cells.length).all fun i=>c.cells.getD i 0==(i:Int))&&
 CZ [c.set,c.other] 0 (2 ^ sy.toNat-1)&&CZ [c.lo,c.hi] 0 65536&&decide (c.runs.length<=8)&&CZ c.runs 1 256
theorem OT: ∀ (n:Nat) (l:List Int),l.Nodup -> (∀ x∈l,0<=x/\ x<(n:Int)) -> l.length<=n
 | 0,l,_,h=>by
  cases l with
  | nil=>simp
  | cons a l=>have:=h a (by simp);omega
 | n+1,l,hd,h=>by
  have h1:(l.erase (n:Int)).length<=n:=OT n _ (hd.erase _) (fun x hx=>by
   have:=hd.mem_erase_iff.1 hx;have h2:=h x this.2;have h3:=this.1;omega)
  by_cases hm:(n:Int)∈l
  ·have:=zE9 hm;omega
  ·rw [List.erase_of_not_mem hm] at h1;omega
theorem gX {l:List Int}:Mi l=true↔l.Nodup:=by
 unfold Mi List.Nodup;rw [zCs,zE4];constructor
 ·intro h i j hi hj O1 e;have:=h j (by simpa using hj);simp only [u8,zAe hj,zEB,zDT] at this;rw [zEa,ne_eq,zEH,zE5] at this;exact this ⟨i,by omega,e⟩
 ·intro h i hi;have BD:i<l.length:=by simpa using hi
  simp only [u8,zAe BD,zEB,zDT];rw [zEa,ne_eq,zEH,zE5];rintro ⟨j,hj,e⟩;exact h j i (by omega) BD (by omega) e
theorem Pu {l:List Int} {lo hi:Int}:CZ l lo hi=true↔∀ x∈l,lo<=x/\ x<=hi:=by
 unfold CZ;simp [IW]
theorem bQ {n kind:Int} {cells:List Int}:Wn n kind cells=true↔(∀ x∈cells,0<=x/\ x<n)/\ cells.Nodup/\ (8<=kind -> ∀ j,j<cells.length -> cells.getD j 0=(j:Int)):=by
 rw [←gX];unfold Wn Mi NZ;simp only [zCs,zCy,zCp,zDH,zC7,zDT,zDB,zDo];constructor
 ·intro h;refine ⟨fun x hx=>?_,fun j hj=>(h j hj).1.2,fun h8 j hj=>?_⟩
  ·obtain ⟨j,hj,rfl⟩:=zDq hx;have:=(h j hj).1.1;simpa [hj] using this
  ·rcases (h j hj).2 with h' | h'
   ·exact absurd h8 h'
   ·exact h'
 ·rintro ⟨h1,h2,h3⟩ j hj;have hx:=h1 _ (zC5 hj);refine ⟨⟨by simpa [hj] using hx,h2 j hj⟩,?_⟩
  by_cases h8:8<=kind
  ·exact .inr (h3 h8 j hj)
  ·exact .inl h8
theorem rn (q:AA) (c:AB) (h1:1<=q.cells):UH c q.cells q.symbols=DE q c:=by
 rw [zDp];unfold UH DE;simp only [zCp,bQ,gX,Pu (l:=c.cells),zC7,zDT,zFS,zDB,zDV,zDH,zCs,zCy,Fc];constructor
 ·rintro ⟨⟨⟨⟨⟨⟨⟨⟨⟨⟨⟨k1,k2⟩,k3⟩,k4⟩,k5⟩,k6⟩,k7⟩,k8⟩,k9⟩,Y8⟩,Y7⟩,Y6⟩;refine ⟨⟨⟨⟨⟨⟨fun x hx=>⟨(k4 x hx).1,by have:=(k4 x hx).2;omega⟩,k5,fun h8=>?_⟩,?_⟩,k9⟩,Y8⟩,Y7⟩,Y6⟩
  ·rcases k8 with h | h
   ·omega
   ·exact h
  ·rcases k6 with h6 | h6 <;> rcases k7 with h7 | h7
   ·left;left;omega
   ·by_cases h:c.kind=8∨c.kind=9
    ·right;exact ⟨h,h7⟩
    ·left;left;omega
   ·by_cases h:c.kind=6∨c.kind=7
    ·left;right;exact ⟨h,h6⟩
    ·left;left;omega
   ·by_cases h:c.kind=6∨c.kind=7
    ·left;right;exact ⟨h,h6⟩
    ·by_cases h2:c.kind=8∨c.kind=9
     ·right;exact ⟨h2,h7⟩
     ·left;left;omega
 ·rintro ⟨⟨⟨⟨⟨⟨k1,k2,k3⟩,k4⟩,k9⟩,Y8⟩,Y7⟩,Y6⟩
  have Ah:(c.cells.length:Int)<=q.cells:=by
   have:=OT q.cells.toNat c.cells k2 (fun x hx=>by have:=k1 x hx;omega);omega
  refine ⟨⟨⟨⟨⟨⟨⟨⟨⟨⟨⟨by omega,by omega⟩,Ah⟩,fun x hx=>⟨(k1 x hx).1,by have:=(k1 x hx).2;omega⟩⟩,k2⟩,?_⟩,?_⟩,?_⟩,k9⟩,Y8⟩,Y7⟩,Y6⟩
  ·rcases k4 with (h | h) | h
   ·left;omega
   ·right;exact h.2
   ·left;omega
  ·rcases k4 with (h | h) | h
   ·left;omega
   ·left;omega
   ·right;exact h.2
  ·by_cases h8:8<=c.kind
   ·right;exact k3 h8
   ·left;omega
def Bp (q:AA):Bool:=
 decide (1<=q.cells)&&decide (q.cells<=256)&&decide (1<=q.symbols)&&decide (q.symbols<=16)&&((q.values.length:Int)==q.symbols)&&CZ q.values 0 99&&
 ((q.nbrs.length:Int)==q.cells)&&Hu q.nbrs&&decide (q.cons.length<=4096)&&q.cons.all (DE q)
def GZ (kind:Int):Int:=if kind=3∨kind=4 then 2 else if kind=5 then 3 else if kind=8∨kind=9 then 4 else 1
def Hi (q:AA) (i:Int):Int×Int:=
 if Bp q=false then (0,191) else if 0<=i/\ i<q.cons.length then (GZ ((q.cons.getD i.toNat default).kind),0) else (0,260)
theorem DX {q:AA} (h:Bp q=true):(1<=q.cells/\ q.cells<=256)/\ (1<=q.symbols/\ q.symbols<=16)/\ ((q.values.length:Int)=q.symbols/\ CZ q.values 0 99=true)/\
 ((q.nbrs.length:Int)=q.cells/\ Hu q.nbrs=true)/\ q.cons.length<=4096/\ ∀ c∈q.cons,DE q c=true:=by
 unfold Bp at h;simp only [zCp,zDH,zDB,zCs] at h;obtain ⟨⟨⟨⟨⟨⟨⟨⟨⟨h1,h2⟩,h3⟩,h4⟩,h5⟩,h6⟩,h7⟩,h8⟩,h9⟩,NN⟩:=h;exact ⟨⟨h1,h2⟩,⟨h3,h4⟩,⟨h5,h6⟩,⟨h7,h8⟩,h9,NN⟩
theorem iR {q:AA} {c:AB} (h:DE q c=true):Fc q.cells c.kind c.cells.length=true:=by
 unfold DE at h;simp only [zCp] at h;exact h.1.1.1.1.2
theorem Mt {n kind:Int} {len:Nat} (h:Fc n kind len=true):1<=kind/\ kind<=9:=by
 unfold Fc at h;simp at h;omega
theorem LN {k:Int} (h:1<=k/\ k<=9):k=1∨k=2∨k=3∨k=4∨k=5∨k=6∨k=7∨k=8∨k=9:=by omega
end Go.Proofs.YtgkhhfnhacibcaaGreatDoor
namespace Go.Proofs.YtgkhhfnhacibcaaGreatDoor
open Go.RowKit
theorem eI {R:Type} (m:Nat -> Int -> Option R) (len N0:Nat) (B:Nat -> Option R) (h0: ∀ (n i:Nat),N0<=n -> i<len -> m (n+1) (i:Int)=(B i).or (m n ((i:Int)+1))):
 ∀ (k i n:Nat),i+k=len -> N0<=n -> m (n+k) (i:Int)=((List.range' i k).findSome? B).or (m n (len:Int))
 | 0,i,n,h,hn=>by
  have:i=len:=by omega
  subst this;rfl
 | k+1,i,n,h,hn=>by
  show m (n+k+1) (i:Int)=_
  rw [h0 (n+k) i (by omega) (by omega),zFP,List.findSome?_cons];cases B i with
  | some r=>rfl
  | none=>
   have:=eI m len N0 B h0 k (i+1) n (by omega) hn;rw [←this];simp
theorem II {R:Type} (m:Nat -> Int -> Option R) (len N0:Nat) (B:Nat -> Option R) (h0: ∀ (n i:Nat),N0<=n -> i<len -> m (n+1) (i:Int)=(B i).or (m n ((i:Int)+1))) {n:Nat} (hn:N0+len<=n):
 m n 0=((List.range len).findSome? B).or (m (n-len) (len:Int)):=by
 have:=eI m len N0 B h0 len 0 (n-len) (by omega) (by omega);rw [Nat.sub_add_cancel (by omega)] at this;rw [zEb];exact this
theorem Lh {R:Type} {l:List Nat} {p:Nat -> Bool} {r:R}:(l.findSome? fun i=>if p i then none else some r)=if l.all p then none else some r:=by
 induction l with
 | nil=>rfl
 | cons a l ih=>
  rw [List.findSome?_cons,zEk];cases hp:p a
  ·simp
  ·simp [ih]
theorem Qn {α:Type} {l:List α} {d:α} {p:α -> Bool}:((List.range l.length).all fun i=>p (l.getD i d))=l.all p:=by
 rw [zDp,zCs,zCs];constructor
 ·intro h x hx;obtain ⟨i,hi,rfl⟩:=zDq hx;have:=h i (by simpa using hi);simpa [hi] using this
 ·intro h i hi;have BD:i<l.length:=by simpa using hi
  simp [BD,h _ (zC5 BD)]
theorem r64 {i len:Nat} (h:i<len) (hl:len<=LB):AI ((i:Int)+1):=by rw [An];unfold LB at hl;omega
theorem S7 {l:List Int} {lo up:Int} {n:Nat} (hl:l.length<=LB) (hn:l.length<n):Lq n l lo up=some (CZ l lo up):=by
 unfold Lq lm;have S:=II (fun n i=>Pe l lo up n (.l1 i)) l.length 0 (fun i=>if IW lo up (l.getD i 0) then none else some false) (fun n i _ hi=>?_) (n:=n) (by omega)
 ·refine S.trans ?_;rw [Lh,Qn (p:=IW lo up)];unfold CZ;cases l.all (IW lo up) with
  | false=>rfl
  | true=>
   obtain ⟨m,hm⟩: ∃ m,n-l.length=m+1:=⟨n-l.length-1,by omega⟩;rw [hm];simp [Pe,bU]
 ·have h1:(i:Int)<(l.length:Int):=by omega
  have h2:=r64 hi hl;simp only [Pe,bU,h1,h2,zDu,zCk,zDk,zEI,zDj,zCi,IW];obtain ⟨x,hg⟩: ∃ y,l.getD i 0=y:=⟨_,rfl⟩;simp only [hg]
  by_cases a:x<lo
  ·have: ¬ lo<=x:=by omega
   simp [a,this]
  ·have a':lo<=x:=by omega
   by_cases b:up<x
   ·have: ¬ x<=up:=by omega
    simp [a,b,a',this]
   ·have b':x<=up:=by omega
    simp [a,b,a',b']
theorem vb {l:List Int} {lo up:Int} {n:Nat} (hl:l.length<=LB) (hn:l.length<n): ∃ r:Int,VQ n l lo up=some r/\ (0<=r↔CZ l lo up=false):=by
 unfold VQ io;have S:=II (fun n i=>Mw l lo up n (.l1 i)) l.length 0 (fun i=>if IW lo up (l.getD i 0) then none else some (i:Int)) (fun n i _ hi=>?_) (n:=n) (by omega)
 ·have S:=S;rw [show Mw l lo up n (.l1 0)=_ from S];cases hf:(List.range l.length).findSome? (fun i=>if IW lo up (l.getD i 0) then none else some (i:Int)) with
  | some r=>
   refine ⟨r,rfl,?_⟩;obtain ⟨i,hi,hr⟩:=zEc hf;have BD:i<l.length:=by simpa using hi
   split at hr
   ·cases hr
   ·rename_i hx;cases hr;refine ⟨fun _=>?_,fun _=>by omega⟩;unfold CZ;rw [List.all_eq_false];exact ⟨l[i],zC5 BD,by simpa [BD] using hx⟩
  | none=>
   obtain ⟨m,hm⟩: ∃ m,n-l.length=m+1:=⟨n-l.length-1,by omega⟩;refine ⟨-1,by rw [hm];simp [Mw,ZJ],?_⟩;rw [zEr] at hf
   have:CZ l lo up=true:=by
    unfold CZ;rw [←Qn (p:=IW lo up) (d:=(0:Int)),zCs];intro i hi;have:=hf i hi;cases hc:IW lo up (l.getD i 0) with
    | true=>rfl
    | false=>rw [hc] at this;simp at this
   simp [this]
 ·have h1:(i:Int)<(l.length:Int):=by omega
  have h2:=r64 hi hl;simp only [Mw,ZJ,XG,cZ,h1,h2,zDu,zCk,zDk,zEI,zDj,zCi,IW];obtain ⟨x,hg⟩: ∃ y,l.getD i 0=y:=⟨_,rfl⟩;simp only [hg]
  by_cases a:x<lo
  ·have: ¬ lo<=x:=by omega
   simp [a,this]
  ·have a':lo<=x:=by omega
   by_cases b:up<x
   ·have: ¬ x<=up:=by omega
    simp [a,b,a',this]
   ·have b':x<=up:=by omega
    simp [a,b,a',b']
theorem UR {l:List Int} {lo up:Int} {n:Nat} (hl:l.length<=LB) (hn:l.length<n):K9 n l lo up=some (CZ l lo up):=by
 obtain ⟨r,h1,h2⟩:=vb (lo:=lo) (up:=up) hl hn;unfold K9 YC Wd bF;rw [h1];cases hw:CZ l lo up with
 | true=>
  have: ¬ 0<=r:=fun h=>by rw [h2.1 h] at hw;cases hw
  simp [this]
 | false=>
  have:0<=r:=h2.2 hw;simp [this]
theorem zJ {l:List Int} {x:Int} {n:Nat} (hl:l.length<=LB) (hn:l.length<n):has n l x=some (l.contains x):=by
 unfold has jv;have S:=II (fun n i=>O8 l x n (.l1 i)) l.length 0 (fun i=>if (l.getD i 0 != x) then none else some true) (fun n i _ hi=>?_) (n:=n) (by omega)
 ·refine S.trans ?_;rw [Lh,Qn (p:=fun y=>y != x)]
  have e:l.all (fun y=>y != x)= !l.contains x:=by
   rw [zDp];simp;exact ⟨fun h hx=>h x hx rfl,fun h y hy e=>h (e▸hy)⟩
  rw [e];cases l.contains x with
  | true=>rfl
  | false=>
   obtain ⟨m,hm⟩: ∃ m,n-l.length=m+1:=⟨n-l.length-1,by omega⟩;rw [hm];simp [O8,aU]
 ·have h1:(i:Int)<(l.length:Int):=by omega
  have h2:=r64 hi hl;simp only [O8,aU,h1,h2,zDu,zCk,zDk,zEI,zDj,zCi];obtain ⟨y,hg⟩: ∃ y,l.getD i 0=y:=⟨_,rfl⟩;simp only [hg]
  by_cases a:y=x
  ·simp [a]
  ·have:(y==x)=false:=by simp [a]
   simp [this,a]
theorem zBL {l:List Int} {x:Int} {n:Nat} (hl:l.length<=LB) (hn:l.length<n):Lo n l x=some (l.contains x):=by
 have: ∃ r:Int,VS n l x=some r/\ (0<=r↔l.contains x=true):=by
  unfold VS iq;have S:=II (fun n i=>My l x n (.l1 i)) l.length 0 (fun i=>if (x != l.getD i 0) then none else some (i:Int)) (fun n i _ hi=>?_) (n:=n) (by omega)
  ·rw [show My l x n (.l1 0)=_ from S];cases hf:(List.range l.length).findSome? (fun i=>if (x != l.getD i 0) then none else some (i:Int)) with
   | some r=>
    refine ⟨r,rfl,?_⟩;obtain ⟨i,hi,hr⟩:=zEc hf;have BD:i<l.length:=by simpa using hi
    split at hr
    ·cases hr
    ·rename_i hx;cases hr;refine ⟨fun _=>?_,fun _=>by omega⟩;have:x=l[i]:=by simpa [BD] using hx
     rw [this];simp
   | none=>
    obtain ⟨m,hm⟩: ∃ m,n-l.length=m+1:=⟨n-l.length-1,by omega⟩;refine ⟨-1,by rw [hm];simp [My,ZK],?_⟩;rw [zEr] at hf
    have:l.contains x=false:=by
     rw [zEa];intro h;obtain ⟨i,hi,e⟩:=zDq (by simpa using h:x∈l);have:=hf i (by simpa using hi);simp [hi,e] at this
    rw [this];simp
  ·have h1:(i:Int)<(l.length:Int):=by omega
   have h2:=r64 hi hl;simp only [My,ZK,h1,h2,zDu,zCk,zDk,zEI,zDj,zCi];obtain ⟨y,hg⟩: ∃ y,l.getD i 0=y:=⟨_,rfl⟩;simp only [hg]
   by_cases a:x=y
   ·simp [a]
   ·have:(x==y)=false:=by simp [a]
    simp [this,a]
 obtain ⟨r,h1,h2⟩:=this;unfold Lo bG;rw [h1]
 by_cases h:0<=r
 ·have:=h2.1 h;simp only [zCj];rw [this];simp [h]
 ·have:l.contains x=false:=by rw [zEa];exact fun hc=>h (h2.2 hc)
  simp only [zCj];rw [this];simp;omega
end Go.Proofs.YtgkhhfnhacibcaaGreatDoor
namespace Go.Proofs.YtgkhhfnhacibcaaGreatDoor
open Go.RowKit
def FB (g:List (List Int)):Nat:=(g.map fun r=>r.length+2).sum
theorem Pv: ∀ {g:List (List Int)} {r:List Int},r∈g -> r.length+2<=FB g
 | [],_,h=>by cases h
 | a::g,r,h=>by
  simp only [FB,zD8,List.sum_cons];rcases zDF.1 h with rfl | h
  ·omega
  ·have:=Pv h;unfold FB at this;omega
theorem cY {g:List (List Int)} {v:Nat} (hv:v<g.length):FB (g.drop v)=(g.getD v []).length+2+FB (g.drop (v+1)):=by
 rw [zDD hv];simp only [FB,zD8,List.sum_cons,u8,zAe hv,zEB]
theorem PE {g:List (List Int)} {v:Nat} (hv:v<g.length):g.getD v []∈g:=by
 rw [u8,zAe hv];exact zC5 hv
section
variable {g:List (List Int)} {v j n:Nat}
theorem gb {R:Type} (next Pf:R) (c:Bool -> R) (hc:c true=next) (Id:c false=Pf) (hv:v<g.length) (hj:j<(g.getD v []).length):
 (if Ey g v (g.getD v []) j then next else Pf)=
  (if (g.getD v []).getD j 0<0 then Pf else if (g.getD v []).getD j 0>=(g.length:Int) then Pf else if (g.getD v []).getD j 0=(v:Int) then Pf else
   if 0<j then (if (g.getD v []).getD (j-1) 0>=(g.getD v []).getD j 0 then Pf else c ((g.getD ((g.getD v []).getD j 0).toNat []).contains (v:Int)))
   else c ((g.getD ((g.getD v []).getD j 0).toNat []).contains (v:Int))):=by
 unfold Ey;obtain ⟨x,hx⟩: ∃ x,(g.getD v []).getD j 0=x:=⟨_,rfl⟩;obtain ⟨y,hy⟩: ∃ y,(g.getD v []).getD (j-1) 0=y:=⟨_,rfl⟩;simp only [hx,hy]
 by_cases a:x<0
 ·have: ¬ 0<=x:=by omega
  simp [a,this]
 ·have a':0<=x:=by omega
  by_cases b:x>=(g.length:Int)
  ·have: ¬ x<(g.length:Int):=by omega
   simp [a,b,this]
  ·have b':x<(g.length:Int):=by omega
   by_cases d:x=(v:Int)
   ·simp [a,b,d]
   ·have d':(x != (v:Int))=true:=by simp [d]
    cases hcc:(g.getD x.toNat []).contains (v:Int) with
    | true=>
     by_cases e:0<j
     ·by_cases f:y>=x
      ·have: ¬ y<x:=by omega
       simp [a,b,d,d',e,f,this,a',b']
      ·have f':y<x:=by omega
       simp [a,b,d,d',e,f,f',a',b',hc]
     ·simp [a,b,d,d',e,a',b',hc]
    | false=>
     by_cases e:0<j
     ·by_cases f:y>=x
      ·have: ¬ y<x:=by omega
       simp [a,b,d,d',e,f,this,a',b']
      ·have f':y<x:=by omega
       simp [a,b,d,d',e,f,f',a',b',Id]
     ·simp [a,b,d,d',e,a',b',Id]
theorem fa {j len:Nat} (h:j<len) (hl:len<=LB):AI ((j:Int)-1):=by rw [An];unfold LB at hl;omega
theorem ON {j len:Nat} (h:0<j) (h2:j<len):((0:Int)<=(j:Int)-1/\ (j:Int)-1<(len:Int))/\ ((j:Int)-1).toNat=j-1/\ (j:Int)>0:=by omega
theorem sS {self:OL -> Option Int} (hv:v<g.length) (hg:g.length<=256) (hj:j<(g.getD v []).length) (hr: ∀ r∈g,r.length<=LB) (hn: ∀ r∈g,r.length<n):
 UO n self g (v:Int) (j:Int)=(if Ey g v (g.getD v []) j then none else some (120:Int)).or (self (.l2 (v:Int) ((j:Int)+1))):=by
 have Ah:=hr _ (PE hv);have h1:(v:Int)<(g.length:Int):=by omega
 have h2:(j:Int)<((g.getD v []).length:Int):=by omega
 have h3:=r64 hj Ah;have key:=gb (g:=g) (v:=v) (j:=j) (self (.l2 (v:Int) ((j:Int)+1))) (some (120:Int)) (fun b=>bif b then self (.l2 (v:Int) ((j:Int)+1)) else some 120) rfl rfl hv hj
 have e1:((if Ey g v (g.getD v []) j then none else some (120:Int)).or (self (.l2 (v:Int) ((j:Int)+1))))=(if Ey g v (g.getD v []) j then self (.l2 (v:Int) ((j:Int)+1)) else some 120):=by
  cases Ey g v (g.getD v []) j <;> rfl
 rw [e1,key];simp only [UO,h1,h2,h3,zDu,zCk,zDk,zEI,zDj,zCi];obtain ⟨x,hx⟩: ∃ x,(g.getD v []).getD j 0=x:=⟨_,rfl⟩;simp only [hx]
 by_cases a:x<0
 ·simp [a]
 by_cases b:x>=(g.length:Int)
 ·simp [a,b]
 by_cases d:x=(v:Int)
 ·simp [a,b,d]
 have d':(x==(v:Int))=false:=by simp [d]
 have Mz:g.getD x.toNat []∈g:=PE (by omega);have hh:has n (g.getD x.toNat []) (v:Int)=some ((g.getD x.toNat []).contains (v:Int)):=zJ (hr _ Mz) (hn _ Mz);have GK:0<=x/\ x<(g.length:Int):=by omega
 have fin:((has n (g.getD x.toNat []) (v:Int)).bind fun y1=>bif (!y1) then some (120:Int) else self (.l2 (v:Int) ((j:Int)+1)))=(bif (g.getD x.toNat []).contains (v:Int) then self (.l2 (v:Int) ((j:Int)+1)) else some 120):=by
  rw [hh];cases (g.getD x.toNat []).contains (v:Int) <;> rfl
 by_cases e:0<j
 ·have h4:AI ((j:Int)-1)/\ ((0:Int)<=(j:Int)-1/\ (j:Int)-1<((g.getD v []).length:Int)):=⟨fa hj Ah,(ON e hj).1⟩;have h5:=(ON e hj).2.1;have e':=(ON e hj).2.2;simp only [e',h4,h5,e,GK,d',zDu,zCk,zAc,zDj,zAZ a,zAZ b,zEI,zCt a,zCt b,zCt d,fin]
  by_cases f:(g.getD v []).getD (j-1) 0>=x
  ·simp only [f,zDu,zCk,zDj]
  ·simp only [zAZ f,zAc,zCt f]
 ·have e': ¬ (j:Int)>0:=by omega
  simp only [GK,d',zAc,zDj,zAZ a,zAZ b,zAZ e',zEI,zCt a,zCt b,zCt d,zCt e,fin]
theorem zq {self:PG -> Option Int} {row:List Int} (M5:row=g.getD v []) (hv:v<g.length) (hg:g.length<=256) (hj:j<(g.getD v []).length) (hr: ∀ r∈g,r.length<=LB) (hn: ∀ r∈g,r.length<n):
 V4 n self g (v:Int) row (v:Int) row (row.length:Int) (j:Int)=(if Ey g v (g.getD v []) j then none else some (120:Int)).or (self (.l2 (v:Int) row (v:Int) row (row.length:Int) ((j:Int)+1))):=by
 subst M5;have Ah:=hr _ (PE hv);have h1:(v:Int)<(g.length:Int):=by omega
 have h2:(j:Int)<((g.getD v []).length:Int):=by omega
 have h3:=r64 hj Ah;obtain ⟨NX,j1⟩: ∃ NX,self (.l2 (v:Int) (g.getD v []) (v:Int) (g.getD v []) ((g.getD v []).length:Int) ((j:Int)+1))=NX:=⟨_,rfl⟩;have key:=gb (g:=g) (v:=v) (j:=j) NX (some (120:Int)) (fun b=>bif b then NX else some 120) rfl rfl hv hj
 have e1:((if Ey g v (g.getD v []) j then none else some (120:Int)).or NX)=(if Ey g v (g.getD v []) j then NX else some 120):=by
  cases Ey g v (g.getD v []) j <;> rfl
 rw [j1,e1,key];simp only [V4,h1,h2,h3,zDu,zCk,zDk,zEI,zDj,zCi,j1];obtain ⟨x,hx⟩: ∃ x,(g.getD v []).getD j 0=x:=⟨_,rfl⟩;simp only [hx]
 by_cases a:x<0
 ·simp [a]
 by_cases b:x>=(g.length:Int)
 ·simp [a,b]
 by_cases d:x=(v:Int)
 ·simp [a,b,d]
 have d':(x==(v:Int))=false:=by simp [d]
 have Mz:g.getD x.toNat []∈g:=PE (by omega);have hh:Lo n (g.getD x.toNat []) (v:Int)=some ((g.getD x.toNat []).contains (v:Int)):=zBL (hr _ Mz) (hn _ Mz);have GK:0<=x/\ x<(g.length:Int):=by omega
 have fin:((Lo n (g.getD x.toNat []) (v:Int)).bind fun y1=>bif (!y1) then some (120:Int) else NX)=(bif (g.getD x.toNat []).contains (v:Int) then NX else some 120):=by
  rw [hh];cases (g.getD x.toNat []).contains (v:Int) <;> rfl
 by_cases e:0<j
 ·have h4:AI ((j:Int)-1)/\ ((0:Int)<=(j:Int)-1/\ (j:Int)-1<((g.getD v []).length:Int)):=⟨fa hj Ah,(ON e hj).1⟩;have h5:=(ON e hj).2.1;have e':=(ON e hj).2.2;simp only [e',h4,h5,e,GK,d',zDu,zCk,zAc,zDj,zAZ a,zAZ b,zEI,zCt a,zCt b,zCt d,fin]
  by_cases f:(g.getD v []).getD (j-1) 0>=x
  ·simp only [f,zDu,zCk,zDj]
  ·simp only [zAZ f,zAc,zCt f]
 ·have e': ¬ (j:Int)>0:=by omega
  simp only [GK,d',zAc,zDj,zAZ a,zAZ b,zAZ e',zEI,zCt a,zCt b,zCt d,zCt e,fin]
end
theorem eo {g:List (List Int)} {v:Nat} (hv:v<g.length):((List.range' v (g.length-v)).all fun i=>Gv g i (g.getD i []))=(Gv g v (g.getD v [])&&(List.range' (v+1) (g.length-(v+1))).all fun i=>Gv g i (g.getD i [])):=by
 have:g.length-v=g.length-(v+1)+1:=by omega
 rw [this,zFP,zEk]
theorem fX {g:List (List Int)} (hg:g.length<=256) (hr: ∀ r∈g,r.length<=LB): ∀ (k v n:Nat),v+k=g.length -> FB (g.drop v)+FB g+1<=n -> IL g n (.l1 (v:Int))=some (Cq ((List.range' v (g.length-v)).all fun i=>Gv g i (g.getD i [])) 120)
 | 0,v,n,hv,hn=>by
  have:v=g.length:=by omega
  subst this;obtain ⟨m,rfl⟩: ∃ m,n=m+1:=⟨n-1,by omega⟩;simp [IL,X9,Cq]
 | k+1,v,n,hv,hn=>by
  have Cu:v<g.length:=by omega
  rw [cY Cu] at hn;have hm:=Pv (PE Cu);obtain ⟨m,rfl⟩: ∃ m,n=m+1:=⟨n-1,by omega⟩;have h1:(v:Int)<(g.length:Int):=by omega
  have e1:IL g (m+1) (.l1 (v:Int))=IL g m (.l2 (v:Int) 0):=by simp [IL,X9,h1]
  rw [e1];have S:=II (fun n i=>IL g n (.l2 (v:Int) i)) (g.getD v []).length (FB g) (fun j=>if Ey g v (g.getD v []) j then none else some 120) (fun n' j Fd hj=>sS (n:=n') Cu hg hj hr fun r Cy=>by have:=Pv Cy;omega) (n:=m) (by omega);refine S.trans ?_;rw [Lh,eo Cu];have eR:((List.range (g.getD v []).length).all fun i=>Ey g v (g.getD v []) i)=Gv g v (g.getD v []):=rfl;rw [eR];cases Gv g v (g.getD v []) with
  | false=>rfl
  | true=>
   obtain ⟨m',CE⟩: ∃ m',m-(g.getD v []).length=m'+1:=⟨m-(g.getD v []).length-1,by omega⟩;rw [CE];have h2:AI ((v:Int)+1):=by rw [An];omega
   have ih:=fX hg hr k (v+1) m' (by omega) (by omega);have h3: ¬ (((g.getD v []).length:Int)<((g.getD v []).length:Int)):=by omega
   simp only [zDj,IL,UO,h1,h2,zDk,zEI,zCi,zAZ h3,zAc,zDG];exact ih
theorem kJ {g:List (List Int)} (hg:g.length<=256) (hr: ∀ r∈g,r.length<=LB): ∀ (k v n:Nat),v+k=g.length -> FB (g.drop v)+FB g+1<=n -> Ih g n (.l1 (v:Int))=some (Cq ((List.range' v (g.length-v)).all fun i=>Gv g i (g.getD i [])) 120)
 | 0,v,n,hv,hn=>by
  have:v=g.length:=by omega
  subst this;obtain ⟨m,rfl⟩: ∃ m,n=m+1:=⟨n-1,by omega⟩;simp [Ih,am,Cq]
 | k+1,v,n,hv,hn=>by
  have Cu:v<g.length:=by omega
  rw [cY Cu] at hn;have hm:=Pv (PE Cu);obtain ⟨m,rfl⟩: ∃ m,n=m+1:=⟨n-1,by omega⟩;have h1:(v:Int)<(g.length:Int):=by omega
  have e1:Ih g (m+1) (.l1 (v:Int))=Ih g m (.l2 (v:Int) (g.getD v []) (v:Int) (g.getD v []) ((g.getD v []).length:Int) 0):=by
   simp only [Ih,am,h1,zDu,zCk,zDk,zEI,zDj,zCi]
  rw [e1];have S:=II (fun n i=>Ih g n (.l2 (v:Int) (g.getD v []) (v:Int) (g.getD v []) ((g.getD v []).length:Int) i)) (g.getD v []).length (FB g) (fun j=>if Ey g v (g.getD v []) j then none else some 120) (fun n' j Fd hj=>zq (n:=n') rfl Cu hg hj hr fun r Cy=>by have:=Pv Cy;omega) (n:=m) (by omega);refine S.trans ?_;rw [Lh,eo Cu];have eR:((List.range (g.getD v []).length).all fun i=>Ey g v (g.getD v []) i)=Gv g v (g.getD v []):=rfl;rw [eR];cases Gv g v (g.getD v []) with
  | false=>rfl
  | true=>
   obtain ⟨m',CE⟩: ∃ m',m-(g.getD v []).length=m'+1:=⟨m-(g.getD v []).length-1,by omega⟩;rw [CE];have h2:AI ((v:Int)+1):=by rw [An];omega
   have ih:=kJ hg hr k (v+1) m' (by omega) (by omega);have h3: ¬ (((g.getD v []).length:Int)<((g.getD v []).length:Int)):=by omega
   simp only [zDj,Ih,V4,h2,zAZ h3,zAc,zDG];exact ih
theorem sP {g:List (List Int)} {n:Nat} (hr: ∀ r∈g,r.length<=LB) (hn:2*FB g+1<=n):UP n g=some (Cq (Hu g) 120):=by
 unfold UP fW Hu
 by_cases h:(g.length:Int)>256
 ·have: ¬ g.length<=256:=by omega
  simp [h,this,Cq]
 ·have h':g.length<=256:=by omega
  have:=fX h' hr g.length 0 n (by omega) (by simp;omega);simp only [zAZ h,zAc,zCm h',zDG];rw [zEb];simpa using this
theorem kI {g:List (List Int)} {n:Nat} (hr: ∀ r∈g,r.length<=LB) (hn:2*FB g+1<=n):SI n g=some (Cq (Hu g) 120):=by
 unfold SI kH Hu
 by_cases h:(g.length:Int)>256
 ·have: ¬ g.length<=256:=by omega
  simp [h,this,Cq]
 ·have h':g.length<=256:=by omega
  have:=kJ h' hr g.length 0 n (by omega) (by simp;omega);simp only [zAZ h,zAc,zCm h',zDG];rw [zEb];simpa using this
end Go.Proofs.YtgkhhfnhacibcaaGreatDoor
namespace Go.Proofs.YtgkhhfnhacibcaaGreatDoor
open Go.RowKit
theorem UW {s:Int} (h1:1<=s) (h2:s<=16):IntKind.i64.wrap (1*2 ^ s.toNat)=2 ^ s.toNat/\ AI ((2:Int) ^ s.toNat-1)/\ ((0:Int)<=s/\ s<=((IntKind.i64.bits:Nat):Int)):=by
 obtain ⟨m,rfl⟩:=zEN (show 0<=s by omega);rw [zCi];have h:m<17:=by omega
 refine ⟨?_,?_,by omega,by show (m:Int)<=64;omega⟩
 ·revert h;clear h1 h2;revert m;decide
 ·revert h;clear h1 h2;revert m;decide
theorem zAq {l:List Int} (hl:l.length<=LB) {i:Nat} (hi:i<l.length) {self:PT -> Option Bool} {n:Nat} (j:Nat) (hj:j<i):WR n self l (i:Int) (j:Int)=(if l.getD i 0 != l.getD j 0 then none else some false).or (self (.l2 (i:Int) ((j:Int)+1))):=by
 have h1:(j:Int)<(i:Int):=by omega
 have h2:(i:Int)<(l.length:Int):=by omega
 have h3:(j:Int)<(l.length:Int):=by omega
 have h4:=r64 (show j<l.length by omega) hl;simp only [WR,h1,h2,h3,h4,zDu,zCk,zDk,zEI,zDj,zCi]
 by_cases a:l.getD i 0=l.getD j 0
 ·have t:(l.getD i 0==l.getD j 0)=true:=by simp only [zDB];exact a
  have t':(l.getD i 0 != l.getD j 0)=false:=by simp only [bne,t,zDR]
  simp only [t,t',zCk,zDU,zER,Option.or]
 ·have:(l.getD i 0==l.getD j 0)=false:=by simp only [zDV];exact a
  have a':(l.getD i 0 != l.getD j 0)=true:=by simp only [zDz];exact a
  simp only [this,a',zAc,zDj,Option.or]
theorem nr {l:List Int} {i:Nat} (hi:i<=l.length) {x:Int}:((List.range i).all fun j=>x != l.getD j 0)= !(l.take i).contains x:=by
 rw [zDp];simp only [zCs,zCy,zDz,ne_eq,zDT,zEa,zEH,zE5,not_exists];constructor
 ·intro h j hj e;have A3:j<l.length:=by omega
  refine h j (by omega) ?_;rw [←e];simp [A3]
 ·intro h j hj e;have A3:j<l.length:=by omega
  exact h j (by omega) (by rw [e];simp [A3])
theorem lB {l:List Int} (hl:l.length<=LB): ∀ (k i n:Nat),i+k=l.length -> k*(l.length+2)+1<=n -> Im l n (.l1 (i:Int))=some ((List.range' i k).all fun i=>!(l.take i).contains (l.getD i 0))
 | 0,i,n,hi,hn=>by
  have:i=l.length:=by omega
  subst this;obtain ⟨m,rfl⟩: ∃ m,n=m+1:=⟨n-1,by omega⟩;simp [Im,a8]
 | k+1,i,n,hi,hn=>by
  have BD:i<l.length:=by omega
  rw [zEz] at hn;obtain ⟨m,rfl⟩: ∃ m,n=m+1:=⟨n-1,by omega⟩;have h1:(i:Int)<(l.length:Int):=by omega
  have e1:Im l (m+1) (.l1 (i:Int))=Im l m (.l2 (i:Int) 0):=by simp [Im,a8,h1]
  rw [e1];have S:=II (fun n j=>Im l n (.l2 (i:Int) j)) i 0 (fun j=>if l.getD i 0 != l.getD j 0 then none else some false) (fun n' j _ hj=>zAq (n:=n') hl BD j hj) (n:=m) (by omega);refine S.trans ?_;rw [Lh,nr (by omega),zFP,zEk];cases (l.take i).contains (l.getD i 0) with
  | true=>rfl
  | false=>
   obtain ⟨m',CE⟩: ∃ m',m-i=m'+1:=⟨m-i-1,by omega⟩;rw [CE];have ih:=lB hl k (i+1) m' (by omega) (by omega);have h2:=r64 BD hl;have h3: ¬ ((i:Int)<(i:Int)):=by omega
   simp only [zDd,zDj,Im,WR,zAZ h3,zAc,h2,zDG];exact ih
theorem zAh {l:List Int} {n:Nat} (hl:l.length<=LB) (hn:l.length*(l.length+2)+1<=n):WV n l=some (Mi l):=by
 unfold WV lA Mi;rw [zEb];exact lB hl l.length 0 n (by omega) hn
section
variable {c:AB} {n:Nat}
def Ju (sy:Int) (c:AB):Bool:=CZ [c.set,c.other] 0 (2 ^ sy.toNat-1)&&CZ [c.lo,c.hi] 0 65536&&decide (c.runs.length<=8)&&CZ c.runs 1 256
theorem VA {a b:Int}:([a,b]:List Int).length<=LB:=by show 2<=LB;unfold LB;omega
theorem iL {l:List Int}:(decide (((l.length:Nat):Int)<=8))=decide (l.length<=8):=by rw [zDp];simp;omega
theorem z8 {self:Lg -> Option Bool} {q:AA} (h1:1<=q.symbols) (h2:q.symbols<=16) (hr:c.runs.length<=LB) (hn:c.runs.length<n) (Hq:2<n):WE n self q c=some (Ju q.symbols c):=by
 obtain ⟨p1,p2,p3⟩:=UW h1 h2;unfold WE;rw [p1,zB3 ⟨p3,p2⟩,UR VA (show 2<n from Hq),UR VA (show 2<n from Hq),UR hr hn];unfold Ju;rw [iL];cases CZ [c.set,c.other] 0 (2 ^ q.symbols.toNat-1) <;> cases CZ [c.lo,c.hi] 0 65536 <;> cases decide (c.runs.length<=8) <;> rfl
theorem zAB {self:Lg -> Option Bool} {q:AA} (hq:q.cells<=256) (hc:c.cells.length<=LB) {i:Nat} (hi:i<c.cells.length) {o:List Bool} (ho:o.length=256) (hm: ∀ x:Nat,x<256 -> o.getD x false=(c.cells.take i).contains (x:Int)):
 SO n self q c (i:Int) o=if NZ q.cells c.kind c.cells i then self (.l1 ((i:Int)+1) (o.set (0+(c.cells.getD i 0).toNat) true)) else some false:=by
 have h1:(i:Int)<(c.cells.length:Int):=by omega
 have h2:=r64 hi hc;unfold NZ;obtain ⟨x,hx⟩: ∃ x,c.cells.getD i 0=x:=⟨_,rfl⟩;simp only [SO,h1,h2,zDu,zCk,zDk,zEI,zDj,zCi,hx]
 by_cases a:x<0
 ·have: ¬ 0<=x:=by omega
  simp [a,this]
 have a':0<=x:=by omega
 by_cases b:x>=q.cells
 ·have: ¬ x<q.cells:=by omega
  simp [a,b,this]
 have b':x<q.cells:=by omega
 have hg:((0:Int)<=x/\ x<((256:Nat):Int))/\ 0+x.toNat<o.length:=⟨⟨a',by omega⟩,by omega⟩
 have yR:o.getD (0+x.toNat) false=(c.cells.take i).contains x:=by
  rw [zC4,hm x.toNat (by omega)]
  congr 1;omega
 simp only [hg,yR,zAZ a,zAZ b,zAc,zDj,zCm a',zCm b',zDG,zEI];cases (c.cells.take i).contains x with
 | true=>rfl
 | false=>
  by_cases e:c.kind>=8
  ·have e':8<=c.kind:=e
   by_cases f:x=(i:Int)
   ·have f1:(x != (i:Int))=false:=by simp [f]
    have f2:(x==(i:Int))=true:=by simp [f]
    simp only [e,e',f1,f2,zDu,zCk,zAc,zDd,zDR,zEC,zDG,zDj]
   ·have f1:(x != (i:Int))=true:=by simp [f]
    have f2:(x==(i:Int))=false:=by simp [f]
    simp only [e,e',f1,f2,zDu,zCk,zAc,zDd,zDR,zEC,zDG,zDU,zER]
  ·have e': ¬ 8<=c.kind:=e;simp only [zAZ e,zAZ e',zDu,zAc,zDd,Bool.true_or,Bool.and_self,zDj]
theorem zAA {self:Lg -> Option Bool} {q:AA} {o:List Bool}:SO n self q c (c.cells.length:Int) o=if Fc q.cells c.kind c.cells.length then self .l2 else some false:=by
 have h1: ¬ ((c.cells.length:Int)<(c.cells.length:Int)):=by omega
 simp only [SO,zAZ h1,zAc]
 by_cases hk:1<=c.kind/\ c.kind<=9
 ·obtain ⟨k,jR⟩: ∃ k,c.kind=k:=⟨_,rfl⟩;rw [jR] at hk;simp only [jR];have e2:(((c.cells.length:Nat):Int) != 2)= !(c.cells.length==2):=by rw [zDp];simp;omega
  have e3:(((c.cells.length:Nat):Int) != q.cells)= !(((c.cells.length:Nat):Int)==q.cells):=rfl;rcases LN hk with h | h | h | h | h | h | h | h | h <;> subst h
  ·rfl
  ·rfl
  ·rfl
  ·rfl
  ·rfl
  ·show (bif (((c.cells.length:Nat):Int) != 2) then some false else self .l2)=_
   rw [e2];unfold Fc;cases c.cells.length==2 <;> rfl
  ·show (bif (((c.cells.length:Nat):Int) != 2) then some false else self .l2)=_
   rw [e2];unfold Fc;cases c.cells.length==2 <;> rfl
  ·show (bif (((c.cells.length:Nat):Int) != q.cells) then some false else self .l2)=_
   rw [e3];unfold Fc;cases ((c.cells.length:Nat):Int)==q.cells <;> rfl
  ·show (bif (((c.cells.length:Nat):Int) != q.cells) then some false else self .l2)=_
   rw [e3];unfold Fc;cases ((c.cells.length:Nat):Int)==q.cells <;> rfl
 ·have KG:Fc q.cells c.kind c.cells.length=false:=by
   rw [zEa];exact fun h=>hk (Mt h)
  rw [KG];have z: ∀ m:Int,1<=m -> m<=9 -> (c.kind==m)=false:=fun m h1 h2=>by simp only [zDV];omega
  simp [z 1,z 2,z 3,z 4,z 5,z 6,z 7,z 8,z 9]
theorem kQ {q:AA} (hq:q.cells<=256) (hc:c.cells.length<=LB) (h1:1<=q.symbols) (h2:q.symbols<=16) (hr:c.runs.length<=LB): ∀ (k i n:Nat) (o:List Bool),i+k=c.cells.length -> k+c.runs.length+6<=n -> o.length=256 -> (∀ x:Nat,x<256 -> o.getD x false=(c.cells.take i).contains (x:Int)) ->
 PL q c n (.l1 (i:Int) o)=some ((List.range' i k).all (NZ q.cells c.kind c.cells)&&Fc q.cells c.kind c.cells.length&&Ju q.symbols c)
 | 0,i,n,o,hi,hn,ho,hm=>by
  have:i=c.cells.length:=by omega
  subst this;obtain ⟨m,rfl⟩: ∃ m,n=m+1:=⟨n-1,by omega⟩;refine (zAA (n:=m)).trans ?_;cases Fc q.cells c.kind c.cells.length with
  | false=>simp
  | true=>
   obtain ⟨m',rfl⟩: ∃ m',m=m'+1:=⟨m-1,by omega⟩
   show WE m' (PL q c m') q c=_
   rw [z8 h1 h2 hr (by omega) (by omega)];simp
 | k+1,i,n,o,hi,hn,ho,hm=>by
  obtain ⟨m,rfl⟩: ∃ m,n=m+1:=⟨n-1,by omega⟩;refine (zAB (n:=m) hq hc (show i<c.cells.length by omega) ho hm).trans ?_;rw [zFP,zEk];cases Vs:NZ q.cells c.kind c.cells i with
  | false=>simp
  | true=>
   have hx:0<=c.cells.getD i 0/\ c.cells.getD i 0<q.cells:=by
    unfold NZ at Vs;simp only [zCp,zDH] at Vs;exact ⟨Vs.1.1.1,Vs.1.1.2⟩
   have ih:=kQ hq hc h1 h2 hr k (i+1) m (o.set (0+(c.cells.getD i 0).toNat) true) (by omega) (by omega) (by simp [ho]) (fun x wM=>?_)
   ·simp only [zDj,zDG];exact ih
   ·have BD:i<c.cells.length:=by omega
    rw [zC4]
    have ht:c.cells.take (i+1)=c.cells.take i++[c.cells.getD i 0]:=by
     rw [List.take_add_one];simp [BD]
    rw [ht,List.contains_append,←hm x wM];rw [u8,zDP]
    by_cases e:(c.cells.getD i 0).toNat=x
    ·have e2:((x:Nat):Int)=c.cells.getD i 0:=by omega
     rw [zB3 e,zB3 (by omega)];simp [e2]
    ·have e2: ¬ ((x:Nat):Int)=c.cells.getD i 0:=by omega
     rw [zCt e]
     have e3:([c.cells.getD i 0].contains ((x:Nat):Int))=false:=by
      simp only [List.contains_cons,List.contains_nil,zD9,zDV];exact e2
     rw [e3,zD9,u8]
theorem zAD {q:AA} (hq:q.cells<=256) (hc:c.cells.length<=LB) (h1:1<=q.symbols) (h2:q.symbols<=16) (hr:c.runs.length<=LB) (hn:c.cells.length+c.runs.length+6<=n):WF n q c=some (DE q c):=by
 unfold WF kR;have:=kQ hq hc h1 h2 hr c.cells.length 0 n (List.replicate 256 false) (by omega) (by omega) zC0 (fun x hx=>by rw [u8,zDc,zB3 hx];rfl);refine Eq.trans this ?_;rw [←zEb];unfold DE Wn Ju;simp only [Bool.and_assoc]
end
end Go.Proofs.YtgkhhfnhacibcaaGreatDoor
namespace Go.Proofs.YtgkhhfnhacibcaaGreatDoor
open Go.RowKit
section
variable {c:AB} {n:Nat} {cells sy:Int}
def Oi (c:AB):Bool:=(List.range c.cells.length).all fun i=>c.cells.getD i 0==(i:Int)
theorem ri (hc:c.cells.length<=LB) (hr:c.runs.length<=LB) (h1:1<=sy) (h2:sy<=16) (hn:c.cells.length+c.runs.length+6<=n):K8 c cells sy n (.l1 0)=some ((!(c.kind==8||c.kind==9)||Oi c)&&Ju sy c):=by
 have S:=II (fun n i=>K8 c cells sy n (.l1 i)) c.cells.length 0 (fun i=>if (!(c.kind==8||c.kind==9)||c.cells.getD i 0==(i:Int)) then none else some false) (fun n i _ hi=>?_) (n:=n) (by omega)
 ·refine S.trans ?_;rw [Lh]
  have e:((List.range c.cells.length).all fun i=>(!(c.kind==8||c.kind==9)||c.cells.getD i 0==(i:Int)))=(!(c.kind==8||c.kind==9)||Oi c):=by
   unfold Oi;cases (c.kind==8||c.kind==9) with
   | true=>simp
   | false=>simp
  rw [e];cases (!(c.kind==8||c.kind==9)||Oi c) with
  | false=>rfl
  | true=>
   obtain ⟨m,hm⟩: ∃ m,n-c.cells.length=m+1:=⟨n-c.cells.length-1,by omega⟩;rw [hm];obtain ⟨p1,p2,p3⟩:=UW h1 h2;have h3: ¬ ((c.cells.length:Int)<(c.cells.length:Int)):=by omega
   show Ql m (K8 c cells sy m) c cells sy (c.cells.length:Int)=_
   unfold Ql;rw [zAZ h3,zAc,p1,zB3 ⟨p3,p2⟩,S7 VA (show 2<m by omega),S7 VA (show 2<m by omega),S7 hr (show c.runs.length<m by omega)];unfold Ju;rw [iL];cases CZ [c.set,c.other] 0 (2 ^ sy.toNat-1) <;> cases CZ [c.lo,c.hi] 0 65536 <;> cases decide (c.runs.length<=8) <;> rfl
 ·have h1:(i:Int)<(c.cells.length:Int):=by omega
  have h2:=r64 hi hc
  show Ql n (K8 c cells sy n) c cells sy (i:Int)=_
  generalize K8 c cells sy n=self
  simp only [Ql,h1,h2,zDu,zCk,zDk,zEI,zDj,zCi];obtain ⟨x,hx⟩: ∃ x,c.cells.getD i 0=x:=⟨_,rfl⟩;simp only [hx]
  by_cases f:x=(i:Int)
  ·have f1:(x != (i:Int))=false:=by simp [f]
   have f2:(x==(i:Int))=true:=by simp [f]
   rw [f1,f2];cases c.kind==8 <;> cases c.kind==9 <;> rfl
  ·have f1:(x != (i:Int))=true:=by simp [f]
   have f2:(x==(i:Int))=false:=by simp [f]
   rw [f1,f2];cases c.kind==8 <;> cases c.kind==9 <;> rfl
theorem rj (hc:c.cells.length<=LB) (hr:c.runs.length<=LB) (h0:1<=cells) (h00:cells<=256) (h1:1<=sy) (h2:sy<=16) (hn:c.cells.length*(c.cells.length+2)+c.cells.length+c.runs.length+7<=n):UI n c cells sy=some (UH c cells sy):=by
 have loop:=ri (cells:=cells) hc hr h1 h2 (n:=n) (by omega);have hR:AI (cells-1):=by rw [An];omega
 unfold UI fQ UH;simp only [hR,zDj,S7 hc (show c.cells.length<n by omega),zAh hc (show c.cells.length*(c.cells.length+2)+1<=n by omega),loop,zCj];have yf:((List.range c.cells.length).all fun i=>c.cells.getD i 0==(i:Int))=Oi c:=rfl;have wq: ∀ b:Bool,(b&&CZ [c.set,c.other] 0 (2 ^ sy.toNat-1)&&CZ [c.lo,c.hi] 0 65536&&decide (c.runs.length<=8)&&CZ c.runs 1 256)=(b&&Ju sy c):=fun b=>by unfold Ju;simp only [Bool.and_assoc]
 rw [yf,wq];have e2:(((c.cells.length:Nat):Int) != 2)= !(c.cells.length==2):=by rw [zDp];simp;omega
 have e3:(((c.cells.length:Nat):Int) != cells)= !(((c.cells.length:Nat):Int)==cells):=rfl;rw [e2,e3]
 generalize Ju sy c=R
 generalize Oi c=D
 generalize CZ c.cells 0 (cells-1)=W
 generalize Mi c.cells=U
 generalize (c.cells.length==2)=T
 generalize hE:(((c.cells.length:Nat):Int)==cells)=E
 by_cases k1:c.kind<1
 ·have: ¬ 1<=c.kind:=by omega
  simp [k1,this]
 by_cases k2:c.kind>9
 ·have: ¬ c.kind<=9:=by omega
  simp [k1,k2,this]
 by_cases k3:((c.cells.length:Nat):Int)>cells
 ·have: ¬ ((c.cells.length:Nat):Int)<=cells:=by omega
  simp [k1,k2,k3,this]
 have Y9:1<=c.kind:=by omega
 have Y5:c.kind<=9:=by omega
 have vE:((c.cells.length:Nat):Int)<=cells:=by omega
 simp only [zAZ k1,zAZ k2,zAZ k3,zCm Y9,zCm Y5,zCm vE,zAc,zDG];obtain ⟨k,hk⟩: ∃ k,c.kind=k:=⟨_,rfl⟩;rw [hk] at Y9 Y5;simp only [hk];clear hE;rcases LN ⟨Y9,Y5⟩ with h | h | h | h | h | h | h | h | h <;> subst h <;> cases W <;> cases U <;> cases T <;> cases E <;> cases D <;> cases R <;> rfl
end
def Ny (c:AB):Nat:=c.cells.length*(c.cells.length+2)+c.cells.length+c.runs.length+7
theorem df (c:AB):Ny c=c.cells.length*(c.cells.length+2)+c.cells.length+c.runs.length+7:=rfl
def D7 (q:AA):Nat:=q.values.length+2*FB q.nbrs+(q.cons.map Ny).sum+q.cons.length+10
structure CW (q:AA):Prop where
 values:q.values.length<=LB
 nbrs: ∀ r∈q.nbrs,r.length<=LB
 cells: ∀ c∈q.cons,c.cells.length<=LB
 runs: ∀ c∈q.cons,c.runs.length<=LB
theorem XW: ∀ {l:List AB} {c:AB},c∈l -> Ny c<=(l.map Ny).sum
 | [],_,h=>by cases h
 | a::l,c,h=>by
  rw [zD8,List.sum_cons];rcases zDF.1 h with rfl | h
  ·omega
  ·have:=XW h;omega
section
variable {q:AA} {n:Nat}
theorem kZ {b:Bool}:(Cq b 120==0)=b:=by cases b <;> rfl
theorem nY (hF:CW q) (h1:1<=q.cells) (h2:q.cells<=256) (h3:1<=q.symbols) (h4:q.symbols<=16) (h5:q.cons.length<=4096) (hn:D7 q<=n): ∃ r:Int,VM n q.cons q=some r/\ (0<=r↔q.cons.all (DE q)=false):=by
 unfold VM il;have S:=II (fun n i=>LP q.cons q n (.l1 i)) q.cons.length (q.cons.map Ny).sum (fun i=>if DE q (q.cons.getD i default) then none else some (i:Int)) (fun n i Fd hi=>?_) (n:=n) (by unfold D7 at hn;omega)
 ·rw [show LP q.cons q n (.l1 0)=_ from S];cases hf:(List.range q.cons.length).findSome? (fun i=>if DE q (q.cons.getD i default) then none else some (i:Int)) with
  | some r=>
   refine ⟨r,rfl,?_⟩;obtain ⟨i,hi,hr⟩:=zEc hf;have BD:i<q.cons.length:=by simpa using hi
   split at hr
   ·cases hr
   ·rename_i hx;cases hr;refine ⟨fun _=>?_,fun _=>by omega⟩;rw [List.all_eq_false];exact ⟨q.cons[i],zC5 BD,by simpa [BD] using hx⟩
  | none=>
   obtain ⟨m,hm⟩: ∃ m,n-q.cons.length=m+1:=⟨n-q.cons.length-1,by unfold D7 at hn;omega⟩;refine ⟨-1,by rw [hm];simp [LP,VK],?_⟩;rw [zEr] at hf
   have:q.cons.all (DE q)=true:=by
    rw [←Qn (p:=DE q) (d:=(default:AB)),zCs];intro i hi;have:=hf i hi;cases hc:DE q (q.cons.getD i default) with
    | true=>rfl
    | false=>rw [hc] at this;simp at this
   simp [this]
 ·have AL:(i:Int)<(q.cons.length:Int):=by omega
  have hR:AI ((i:Int)+1):=by rw [An];omega
  have CD:q.cons.getD i default∈q.cons:=by rw [u8,zAe hi];exact zC5 hi
  have Az:=XW CD;have Vq:=zAD (n:=n) h2 (hF.cells _ CD) h3 h4 (hF.runs _ CD) (by rw [df (q.cons.getD i default)] at Az;omega)
  show VK n (LP q.cons q n) q.cons q (i:Int)=_
  generalize LP q.cons q n=self
  simp only [VK,TX,XQ,AL,hR,zDu,zCk,zDk,zEI,zDj,zCi,Vq,zCj];cases DE q (q.cons.getD i default) <;> rfl
theorem XK (hF:CW q) (hn:D7 q<=n):valid n q=some (Cq (Bp q) 191):=by
 unfold valid cg Bp;have hv:=UR (lo:=0) (up:=99) hF.values (show q.values.length<n by unfold D7 at hn;omega);have hg:=kI hF.nbrs (show 2*FB q.nbrs+1<=n by unfold D7 at hn;omega)
 by_cases c1:q.cells<1
 ·have: ¬ 1<=q.cells:=by omega
  simp [c1,this,Cq]
 have S0:1<=q.cells:=by omega
 by_cases c2:q.cells>256
 ·have: ¬ q.cells<=256:=by omega
  simp [c1,c2,this,Cq]
 have Sz:q.cells<=256:=by omega
 by_cases c3:q.symbols<1
 ·have: ¬ 1<=q.symbols:=by omega
  simp [c1,c2,c3,this,Cq]
 have Sy:1<=q.symbols:=by omega
 by_cases c4:q.symbols>16
 ·have: ¬ q.symbols<=16:=by omega
  simp [c1,c2,c3,c4,this,Cq]
 have Sx:q.symbols<=16:=by omega
 simp only [zAZ c1,zAZ c2,zAZ c3,zAZ c4,zCm S0,zCm Sz,zCm Sy,zCm Sx,zAc,zDG,hv,hg,zCj,bne,kZ];cases ((q.values.length:Nat):Int)==q.symbols with
 | false=>rfl
 | true=>
 cases CZ q.values 0 99 with
 | false=>rfl
 | true=>
 cases ((q.nbrs.length:Nat):Int)==q.cells with
 | false=>rfl
 | true=>
 cases Hu q.nbrs with
 | false=>rfl
 | true=>
 by_cases c5:((q.cons.length:Nat):Int)>4096
 ·have: ¬ q.cons.length<=4096:=by omega
  simp [c5,this,Cq]
 have Sw:q.cons.length<=4096:=by omega
 obtain ⟨r,r1,r2⟩:=nY hF S0 Sz Sy Sx Sw hn;simp only [Wb,bD,r1,zAZ c5,zCm Sw,zCj,zAc,zDG,zDR,zAS,beq_self_eq_true];cases ha:q.cons.all (DE q) with
 | false=>
  have:r>=0:=r2.2 ha;simp [this,Cq]
 | true=>
  have: ¬ r>=0:=fun h=>by rw [r2.1 h] at ha;cases ha
  simp [this,Cq]
theorem qU (hF:CW q) (h1:1<=q.cells) (h2:q.cells<=256) (h3:1<=q.symbols) (h4:q.symbols<=16) (h5:q.cons.length<=4096) (hn:D7 q<=n):K1 q n (.l1 0)=some (Cq (q.cons.all (DE q)) 191):=by
 have S:=II (fun n i=>K1 q n (.l1 i)) q.cons.length (q.cons.map Ny).sum (fun i=>if DE q (q.cons.getD i default) then none else some 191) (fun n i Fd hi=>?_) (n:=n) (by unfold D7 at hn;omega)
 ·refine S.trans ?_;rw [Lh,Qn (p:=DE q)];cases q.cons.all (DE q) with
  | false=>rfl
  | true=>
   obtain ⟨m,hm⟩: ∃ m,n-q.cons.length=m+1:=⟨n-q.cons.length-1,by unfold D7 at hn;omega⟩;rw [hm];simp [K1,Ty,Cq]
 ·have AL:(i:Int)<(q.cons.length:Int):=by omega
  have hR:AI ((i:Int)+1):=by rw [An];omega
  have CD:q.cons.getD i default∈q.cons:=by rw [u8,zAe hi];exact zC5 hi
  have Az:=XW CD;have Vq:=rj (n:=n) (hF.cells _ CD) (hF.runs _ CD) h1 h2 h3 h4 (by rw [df (q.cons.getD i default)] at Az;omega);rw [rn q _ h1] at Vq
  show Ty n (K1 q n) q (i:Int)=_
  generalize K1 q n=self
  simp only [Ty,AL,hR,zDu,zCk,zDk,zEI,zDj,zCi,Vq,zCj];cases DE q (q.cons.getD i default) <;> rfl
theorem eV (hF:CW q) (hn:D7 q<=n):QR n q=some (Cq (Bp q) 191):=by
 unfold QR eU Bp;have hv:=S7 (lo:=0) (up:=99) hF.values (show q.values.length<n by unfold D7 at hn;omega);have hg:=sP hF.nbrs (show 2*FB q.nbrs+1<=n by unfold D7 at hn;omega)
 by_cases c1:q.cells<1
 ·have: ¬ 1<=q.cells:=by omega
  simp [c1,this,Cq]
 have S0:1<=q.cells:=by omega
 by_cases c2:q.cells>256
 ·have: ¬ q.cells<=256:=by omega
  simp [c1,c2,this,Cq]
 have Sz:q.cells<=256:=by omega
 by_cases c3:q.symbols<1
 ·have: ¬ 1<=q.symbols:=by omega
  simp [c1,c2,c3,this,Cq]
 have Sy:1<=q.symbols:=by omega
 by_cases c4:q.symbols>16
 ·have: ¬ q.symbols<=16:=by omega
  simp [c1,c2,c3,c4,this,Cq]
 have Sx:q.symbols<=16:=by omega
 simp only [zAZ c1,zAZ c2,zAZ c3,zAZ c4,zCm S0,zCm Sz,zCm Sy,zCm Sx,zAc,zDG,hv,hg,zCj,bne,kZ];cases ((q.values.length:Nat):Int)==q.symbols with
 | false=>rfl
 | true=>
 cases CZ q.values 0 99 with
 | false=>rfl
 | true=>
 cases ((q.nbrs.length:Nat):Int)==q.cells with
 | false=>rfl
 | true=>
 cases Hu q.nbrs with
 | false=>rfl
 | true=>
 by_cases c5:((q.cons.length:Nat):Int)>4096
 ·have: ¬ q.cons.length<=4096:=by omega
  simp [c5,this,Cq]
 have Sw:q.cons.length<=4096:=by omega
 simp only [qU hF S0 Sz Sy Sx Sw hn,zAZ c5,zCm Sw,zAc,zDG,zDR]
theorem uM {k:Int} (h:1<=k/\ k<=9):([0,1,1,2,2,3,1,1,4,4]:List Int).getD k.toNat 0=GZ k:=by
 rcases LN h with h | h | h | h | h | h | h | h | h <;> subst h <;> rfl
theorem u4 (hv:Bp q=true) {i:Int} (h0:0<=i) (hi:i<(q.cons.length:Int)):1<=(q.cons.getD i.toNat default).kind/\ (q.cons.getD i.toNat default).kind<=9:=by
 have BD:i.toNat<q.cons.length:=by omega
 have CD:q.cons.getD i.toNat default∈q.cons:=by rw [u8,zAe BD];exact zC5 BD
 exact Mt (iR ((DX hv).2.2.2.2.2 _ CD))
theorem Yx (hF:CW q) (hn:D7 q<=n) (i:Int):Ms n q i=some (Hi q i):=by
 unfold Ms Yw Hi;rw [XK hF hn];cases hv:Bp q with
 | false=>rfl
 | true=>
  by_cases h0:i<0
  ·have: ¬ (0<=i/\ i<(q.cons.length:Int)):=by omega
   simp [Cq,h0,this]
  ·by_cases hi:i>=(q.cons.length:Int)
   ·have: ¬ (0<=i/\ i<(q.cons.length:Int)):=by omega
    simp [Cq,h0,hi,this]
   ·have hc:0<=i/\ i<(q.cons.length:Int):=by omega
    have hk:=u4 hv hc.1 hc.2;have hg:(0<=i/\ i<(q.cons.length:Int))/\ (0<=(q.cons.getD i.toNat default).kind/\ (q.cons.getD i.toNat default).kind<((10:Nat):Int)):=⟨hc,by omega,by omega⟩;simp only [Cq,zDj,zCj,bne_self_eq_false,zAc,zAZ h0,zAZ hi,zB3 hg,zB3 hc,uM hk,Bool.true_eq_false,zER]
theorem zAM (hn:q.cons.length<n): ∃ b,WL n q=some b:=by
 unfold WL kU
 have loop:q.cons.length<=120 -> ∃ b,KR q n (.l1 0)=some b:=fun hl=>by
  have S:=II (fun n i=>KR q n (.l1 i)) q.cons.length 0 (fun i=>if (!(decide (((q.cons.getD i default).cells.length:Int)>20))&&!(decide (((q.cons.getD i default).runs.length:Int)>10))) then none else some false) (fun n i _ hi=>?_) (n:=n) (by omega)
  ·rw [show KR q n (.l1 0)=_ from S];rw [Lh];split
   ·obtain ⟨m,hm⟩: ∃ m,n-q.cons.length=m+1:=⟨n-q.cons.length-1,by omega⟩;exact ⟨true,by rw [hm];simp [KR,WJ]⟩
   ·exact ⟨false,rfl⟩
  ·have AL:(i:Int)<(q.cons.length:Int):=by omega
   have hR:AI ((i:Int)+1):=by rw [An];omega
   show WJ n (KR q n) q (i:Int)=_
   generalize KR q n=self
   simp only [WJ,AL,hR,zDu,zCk,zDk,zEI,zDj,zCi];cases decide (((q.cons.getD i default).cells.length:Int)>20) <;> cases decide (((q.cons.getD i default).runs.length:Int)>10) <;> rfl
 cases decide (q.cells>16) with
 | true=>exact ⟨_,rfl⟩
 | false=>
 cases decide (q.symbols>6) with
 | true=>exact ⟨_,rfl⟩
 | false=>
 cases decide (((q.values.length:Nat):Int)>8) with
 | true=>exact ⟨_,rfl⟩
 | false=>
 cases decide (((q.nbrs.length:Nat):Int)>20) with
 | true=>exact ⟨_,rfl⟩
 | false=>
 by_cases h:((q.cons.length:Nat):Int)>120
 ·rw [zCm h];exact ⟨_,rfl⟩
 ·rw [zAZ h];exact loop (by omega)
theorem zAK {pos:List Int} (hn:q.cons.length<n): ∃ b,SQ n q pos=some b:=by
 obtain ⟨b,hb⟩:=zAM hn;unfold SQ aq;rw [hb];cases b
 ·exact ⟨_,rfl⟩
 ·exact ⟨_,rfl⟩
end
end Go.Proofs.YtgkhhfnhacibcaaGreatDoor
namespace Go.Proofs.YtgkhhfnhacibcaaGreatDoor
abbrev zEs:=@BitVec.ofInt_natCast
abbrev zFX:=@Go.Lib.hid
end Go.Proofs.YtgkhhfnhacibcaaGreatDoor
namespace Go.Proofs.YtgkhhfnhacibcaaGreatDoor
open Go.RowKit
theorem nh (x k ZQ:Nat) (w:World) (Fu:((x:Int)==0)=false)
 (key:IntKind.u64.wrap (bits BinOp.and IntKind.u64 (x:Int) (IntKind.u64.wrap (-(x:Int)))*285870213051353865)/288230376151711744=(ZQ:Int))
 (hi:ZQ<64) (hk:k<64) (C3:w.cell? ⟨1,ZQ,none⟩=some (.int .u8 k)):
 Calls Tryz.prog 129 #[.int .u64 x] w fun e w'=>e= .returned (.int .i64 k)/\ w=w':=by
 go_enter Tryz.func129,Tryz.ntmps129
 go_wp2_with (simp only [key])
 go_ret
 exact ⟨rfl,rfl⟩
theorem ni (x:Nat) (hx:x<18446744073709551616) (Fu:x≠0) (w:World) (hT:Lw w):
 Calls Tryz.prog 129 #[.int .u64 x] w fun e w'=>e= .returned (.int .i64 (Lib.ctz 64 x))/\ w=w':=by
 obtain ⟨Vl,hk⟩:=Lib.lowest_bit 64 x Fu hx;obtain ⟨hi,wX⟩:=Lib.deBruijn64_at _ hk;have C3:=hT _ hi;rw [wX] at C3;exact nh x _ _ w (by simp;omega) (tz64_key x _ hx Fu Vl) hi hk C3
theorem nf (x:Nat) (hx:x<18446744073709551616) (Fu:x≠0) (w:World) (hT:Lw w):
 Calls Tryz.prog 111 #[.int .u64 x] w fun e w'=>e= .returned (.int .i64 (Lib.ctz 64 x))/\ w=w':=by
 have h1:=ni x hx Fu w hT
 go_enter Tryz.func111,Tryz.ntmps111
 go_wp2_with (go_at_call 129;refine h1.mono ?_;rintro e w' ⟨rfl,rfl⟩)
 go_ret
 exact ⟨rfl,rfl⟩
def Eg (x:Nat):List Nat:=(List.range 64).filter fun s=>x.testBit s
theorem dg:Eg 0= []:=by simp [Eg]
theorem uN (k m s:Nat):(2 ^ k*(2*m+1)).testBit s=(decide (k<=s)&&(2*m+1).testBit (s-k)):=by
 rw [zEL,Nat.testBit_mul_two_pow]
theorem tc (m s:Nat):(2*m+1).testBit s=(decide (s=0)||(2*m).testBit s):=by
 cases s with
 | zero=>simp [Nat.testBit_zero]
 | succ s=>simp [Nat.testBit_succ];congr 1;omega
theorem sT: ∀ k,k<64 -> List.range 64=List.range k++k::List.range' (k+1) (63-k):=by decide+kernel
theorem dh (x:Nat) (hx:x<18446744073709551616) (Fu:x≠0):Eg x=Lib.ctz 64 x::Eg (x&&& (x-1)):=by
 have hc:Lib.ctz 64 x=Lib.ctzFrom 64 x:=by simp [Lib.ctz,Fu]
 obtain ⟨m,hm,hk⟩:=Lib.ctzFrom_spec 64 x (by omega) (by simpa using hx);rw [hc]
 generalize Lib.ctzFrom 64 x=k at*
 have hb: ∀ s,x.testBit s=(decide (k<=s)&&(decide (s-k=0)||(2*m).testBit (s-k))):=fun s=>by rw [hm,uN,tc]
 have hy: ∀ s,(x&&& (x-1)).testBit s=(x.testBit s&&decide (s≠k)):=by
  intro s;have hp:0<2 ^ k:=Nat.two_pow_pos k
  have M0:x-1=2 ^ k*(2*m)+(2 ^ k-1):=by
   rw [hm,Nat.mul_add,zDf];omega
  have jr:(x-1).testBit s=if s<k then (2 ^ k-1).testBit s else (2*m).testBit (s-k):=by
   rw [M0,Nat.testBit_two_pow_mul_add _ (by omega)]
  rw [Nat.testBit_and,jr,hb]
  by_cases h1:s<k
  ·rw [zAZ (by omega: ¬ k<=s)];simp
  ·rw [zCt h1]
   by_cases h2:s=k
   ·subst h2;simp
   ·rw [zCm (by omega:k<=s),zAZ (by omega: ¬ s-k=0)];simp [h2]
 unfold Eg;have hr:List.range 64=List.range k++k::List.range' (k+1) (63-k):=sT k hk;rw [hr];simp only [List.filter_append,List.filter_cons]
 have h1: ∀ y:Nat,(∀ s,s<k -> y.testBit s=false) -> (List.range k).filter (fun s=>y.testBit s)= []:=fun y h=>by
  rw [List.filter_eq_nil_iff];intro s hs;simp [h s (zCy.1 hs)]
 rw [h1 x (fun s hs=>by rw [hb];simp;omega),h1 (x&&& (x-1)) (fun s hs=>by rw [hy,hb];simp;omega)];have h2:x.testBit k=true:=by rw [hb];simp
 have h3:(x&&& (x-1)).testBit k=false:=by rw [hy];simp
 simp only [h2,h3,zD2,zDj,zDU,zER]
 congr 1
 apply List.filter_congr;intro s hs;rw [hy];have:=List.mem_range'_1.1 hs;simp;omega
theorem zCP (x:Nat) (hx:x<9223372036854775808) (Fu:x≠0):bits .and .i64 (x:Int) ((x:Int)-1)=((x&&& (x-1):Nat):Int):=by
 have e:((x:Int)-1)=((x-1:Nat):Int):=by omega
 have AL:x&&& (x-1)<=x:=Nat.and_le_left;rw [e]
 have h1:(BitVec.ofInt 64 (x:Int)).toNat=x:=by
  rw [zEs,BitVec.toNat_ofNat];exact zE0 (by omega)
 have h2:(BitVec.ofInt 64 ((x-1:Nat):Int)).toNat=x-1:=by
  rw [zEs,BitVec.toNat_ofNat];exact zE0 (by omega)
 show IntKind.i64.wrap ((BitVec.ofInt 64 (x:Int)&&& BitVec.ofInt 64 ((x-1:Nat):Int)).toNat:Int)=_
 rw [BitVec.toNat_and,h1,h2];have hm:((x&&& (x-1):Nat):Int) % 2 ^ 64=((x&&& (x-1):Nat):Int):=by omega
 simp only [IntKind.wrap,IntKind.signed,IntKind.bits,hm];rw [zCt (by rw [zDG,zDH];omega)]
def eG (w:World) (b o:Nat):Nat:=match w.cell? ⟨b,o,none⟩ with
 | some (.int _ x)=>x.toNat
 | _=>0
def Th (s:Nat):Array Value:=#[.int .i64 s]
set_option maxRecDepth 100000 in
set_option maxHeartbeats 4000000 in
theorem ny (set b o:Nat) (w:World) (wf:set<9223372036854775808) (hT:Lw w) (hb:w.cell? ⟨b,o,none⟩=some (.int .i64 set)) (Gc:w.frozen? ⟨b,o,none⟩=false) (zD:b≠1):
 Iv Tryz.prog 110 #[.pointer (some ⟨b,o,none⟩)] ((Eg set).map Th) (fun k=>k=b) (fun k=>k=1) w:=by
 intro l J Jx G W hJ hJx hU hG ab hY h0;have HY:=zFX hY;clear hY;have ac:G b:=hG b rfl;have zF:W.cell? ⟨b,o,none⟩=some (.int .i64 set):=hU.cell (fun h=>h (.inl rfl)) hb
 have yn:W.frozen? ⟨b,o,none⟩=false:=by
  rw [World.frozen?_of_block (hU.block b (zD4 w _ hb) (fun h=>h (.inl rfl)))];exact Gc
 have zP:Lw W:=fun j hj=>hU.cell (fun h=>h (.inr rfl)) (hT j hj)
 refine callsIn_of_wp Tryz.func110 rfl trivial ?_ rfl;simp only [Tryz.ntmps110,zFH,zDn,zDx,Nat.reduceAdd,Nat.reduceSub,Array.replicate_succ,Array.replicate_zero,List.push_toArray,List.append_toArray,zD2,List.cons_append]
 gi_wp2
 gi_loopw [3,4,5,6,7,8,9,10,11,12,13,14] (fun _ _ _ _ _ _ _ _ _ _ _ _ wr=>∃ (i x:Nat),W.heap.size<=wr.heap.size/\ x<9223372036854775808/\ i<=(Eg set).length/\ Hid ((Eg set).drop i=Eg x)/\ Hid (J i G wr)/\ wr.cell? ⟨b,o,none⟩=some (.int .i64 x)/\ wr.frozen? ⟨b,o,none⟩=false/\ Hid (Lw wr))
  (fun _ _ _ _ _ _ _ _ _ _ _ _ wr=>eG wr b o)
 case atStart=>exact ⟨0,set,zC6 _,wf,zD0 _,zFX rfl,zFX h0,zF,yn,zFX zP⟩
 case round=>
  obtain ⟨i,x,Az,hx,CH,hd,hj,hc,hf,ht⟩:=hrel
  by_cases Fu:x=0
  ·subst Fu
   have Cp:i=(Eg set).length:=by
    have:=congrArg List.length hd.out;rw [zE2,dg,zDx] at this;omega
   gi_wp2
   go_end0
   exact ⟨⟨_,rfl⟩,.inl ⟨G,Cp▸hj.out⟩⟩
  ·have N0:((x:Int)==0)=false:=by simp [Fu]
   have NG:(Eg set).drop i=Lib.ctz 64 x::Eg (x&&& (x-1)):=by rw [hd.out,dh x (by omega) Fu]
   have Cp:i<(Eg set).length:=by
    rcases zD3 i (Eg set).length with h | h
    ·exact h
    ·rw [zDg h] at NG;cases NG
   have ye:(Eg set)[i]=Lib.ctz 64 x:=by
    have:=zDD Cp;rw [NG] at this;injection this with h1 h2;exact h1.symm
   obtain ⟨fn,tmps,mH,body,hy,hR⟩:=HY.out i (Th (Lib.ctz 64 x)) G wr (by rw [zC1,zAe Cp,ye];rfl) hj.out;have zR:=zFX hR;clear hR;unfold Th at hy;have wW:=zFX (nf x (by omega) Fu wr ht.out);have yx:=zFX NG;clear NG hd
   gi_wp2_with (first | refine ⟨trivial,rfl,?_⟩ | (gi_at_call 111;refine (callsIn_wide.2 wW.out).mono ?_;rintro e w' ⟨rfl,rfl⟩))
   refine ⟨rfl,zR.out.mono ?_⟩;rintro e W1 ⟨G8,(⟨rfl,yc⟩ | ⟨rfl,M0⟩)⟩
   ·have Vu:W1.cell? ⟨b,o,none⟩=some (.int .i64 x):=G8.cell (fun h=>h (.inl ac)) hc
    have yo:W1.frozen? ⟨b,o,none⟩=false:=by
     rw [World.frozen?_of_block (G8.block b (zD4 wr _ hc) (fun h=>h (.inl ac)))];exact hf
    have iy:Lw W1:=fun j hj=>G8.cell (fun h=>h (.inr rfl)) (ht.out j hj)
    have Co:AO G W1 (W1.setCell ⟨b,o,none⟩ (.int .i64 ((x&&& (x-1):Nat):Int))):=(AO.refl G W1).setCell (fun _=>ac) _;have iz:=zCv Az (zCv G8.size Co.size);have Fy:=zFX (hJ _ _ _ _ _ yc Co (fun k h=>.inl h) (fun k h=>zCu (ab k h) iz))
    have wY:Hid (Lw (W1.setCell ⟨b,o,none⟩ (.int .i64 ((x&&& (x-1):Nat):Int)))):=zFX fun j hj=>
     ((AO.refl (fun k=>k=b) W1).setCell (fun _=>rfl) _).cell (fun e=>zD e.symm) (iy j hj)
    have AL:x&&& (x-1)<x:=Nat.lt_of_le_of_lt Nat.and_le_right (by omega);clear Co iy
    gi_wp2
    rw [zCP x hx Fu];have Id:(W1.setCell ⟨b,o,none⟩ (.int .i64 ((x&&& (x-1):Nat):Int))).cell? ⟨b,o,none⟩=some (.int .i64 ((x&&& (x-1):Nat):Int)):=World.cell?_setCell_same' W1 _ _ (by rw [Vu];rfl);refine ⟨⟨_,_,_,_,_,_,_,_,_,_,_,_,⟨i+1,x&&& (x-1),iz,by omega,Cp,zFX ?_,Fy,Id,?_,wY⟩,rfl⟩,?_⟩
    ·rw [←List.drop_drop,yx.out];rfl
    ·rw [World.frozen?_setCell];exact yo
    ·unfold eG;rw [Id,hc]
     show ((x&&& (x-1):Nat):Int).toNat<(x:Int).toNat
     omega
   ·gi_wp2
    refine bodyPost_ret (results_none rfl _ _ _) rfl ?_;exact ⟨⟨_,rfl⟩,.inr ⟨G,M0⟩⟩
def BN (x:Int):List Int:=(Eg x.toNat).map fun (s:Nat)=>(s:Int)
theorem zAb (x:Int):(BN x).map Bg=(Eg x.toNat).map Th:=by
 unfold BN;rw [List.map_map];rfl
theorem nv {x:Int} (hx:(0:Int)<=x/\ x<9223372036854775808) (w:World) (b o:Nat) (u:Value) (hg:GG.gi w) (Gb:GG.ng<=b) (hb: ∃ cs t,w.heap[b]? =some (.cells cs t (0,0))) (hc:w.cell? ⟨b,o,none⟩=some u) (hr:u= .int .i64 x):
 Iv Tryz.prog 110 #[.pointer (some ⟨b,o,none⟩)] ((BN x).map Bg) (fun k=>k=b) (fun k=>k=1) w:=by
 rw [zAb];obtain ⟨cs,t,hb⟩:=hb;have Gb:2<=b:=Gb;refine ny x.toNat b o w (by omega) hg.1 ?_ ?_ (by omega)
 ·rw [hc,hr];congr 2;omega
 ·unfold World.frozen?;simp [hb]
end Go.Proofs.YtgkhhfnhacibcaaGreatDoor
namespace Go.Proofs.YtgkhhfnhacibcaaGreatDoor
open Go.RowKit
theorem ES.iterOf {P:Program} {Γ:A1} {f gf:Nat} {ds:List DV} {c:Nat -> DV} {d:DV} {encs:List (Array Value)} {Rd:Nat -> Prop} (h0:ES P Γ f ds [] (.fn gf 1 c) [some (.cells [d])] true) (hc:c 0= .ref 0 0) (Ff:ds.all G5=true)
 (eg: ∀ args W,(callFunc gf args).run P W= .ok (.enter gf args) W)
 (um: ∀ (w:World) (b o:Nat) (u:Value),Γ.gi w -> Γ.ng<=b -> (∃ cs t,w.heap[b]? =some (.cells cs t (0,0))) -> w.cell? ⟨b,o,none⟩=some u -> AK (fun _=>False) w d [] u -> Iv P gf #[.pointer (some ⟨b,o,none⟩)] encs (fun k=>k=b) Rd w)
 (hd:OO d=true) (JT: ∀ b,Rd b -> b<Γ.ng) (h:DH):ES P Γ f ds h (.it h.length) (h++[some (.iter encs)]) true:=by
 refine ⟨h0.1,fun N ρ w args HR Ce=>?_⟩;refine (h0.2 (MS N h ρ) [] w args (Ot (fun b hb=>HR.lt2 hb) HR.gi) ⟨Ce.1,fun i hi=>?_⟩).mono ?_
 ·have hx:=OS (zCs.1 Ff (ds.getD i .any) (by simp [hi]));exact AK.out _ (Db (fun b hb=>No.1 hb) []) (hx _ _ _ _ (Ce.2 i hi))
 ·rintro e w' ⟨v,rfl,⟨⟨ρ',g1,g2,g3,g4⟩,g5⟩⟩;have hE:=g5 rfl;obtain ⟨p,hp,DC⟩:=g1.obj 0 _ rfl;have DC:Ab w' p 1 _:=DC;have hf: ∀ b,p.foot b -> w.heap.size<=b:=fun b hb=>(g3.grow b ⟨0,_,p,rfl,hp,hb⟩).resolve_left fun ⟨k,o',p',q1,_⟩=>by simp at q1
  obtain ⟨lb,hv,hl,Vn⟩:=g2;obtain ⟨u,hu,hr⟩:=Vn 0 (by omega);rw [hc] at hr;obtain ⟨p',A2,Hn⟩:=hr;have ep:p'=p:=zCq (A2.symm.trans hp);subst ep
  have yX:lb= #[.pointer (some ⟨p'.blk,p'.off,none⟩)]:=by
   apply Array.ext
   ·simp [hl]
   ·intro i h1 h2;have:i=0:=by omega
    subst this;have:=zCl.1 hu;obtain ⟨_,e⟩:=this;rw [e,Hn];rfl
  subst yX;obtain ⟨u2,c1,c2⟩:=Ab.cell DC (j:=0) (by omega);have E1:p'.foot=fun b=>b=p'.blk:=DC.1
  have Gb:Γ.ng<=w.heap.size:=Γ.lo _ HR.gi;have C3:=g1.cel 0 _ p' p'.blk rfl hp (by rw [E1]);refine ⟨v,rfl,⟨⟨ρ++[{ p' with val:=v }],HR.snoc hE (fun b hb=>⟨hf b hb,(g1.cel 0 _ p' b rfl hp hb).2.2⟩) ?_,⟨{ p' with val:=v },by rw [←HR.len];simp,rfl⟩,BH.snoc HR hE hf,fun _ _ h=>Dz h⟩,g5⟩⟩;obtain ⟨_,cs,t,DR,_⟩:=DC;refine ⟨gf,_,Rd,⟨hv,eg⟩,?_,fun b hb=>?_,fun b hb=>?_⟩
  ·show Iv P gf _ encs p'.foot Rd w'
   rw [E1];refine um w' _ _ u2 g1.gi C3.1 ⟨cs,t,DR⟩ (by simpa using c1) ?_;exact AK.out _ (Db (fun b hb=>hb.elim) []) (YK hd c2)
  ·have C4:=JT b hb;refine ⟨fun hm=>?_,zCu (zCu C4 Gb) hE.size⟩;rcases hm with hm | hm
   ·have:=(HR.nlt b hm).2;omega
   ·rcases MO.snoc HR hm with hm | hm
    ·have:=HR.low hm;omega
    ·have:=hf b hm;omega
  ·obtain ⟨_,_,c,t,z,h4⟩:=g1.cel 0 _ p' b rfl hp hb;exact (zCl.1 h4).1
end Go.Proofs.YtgkhhfnhacibcaaGreatDoor
namespace Go.Proofs.YtgkhhfnhacibcaaGreatDoor
open Go.RowKit
set_option maxRecDepth 100000
set_option maxHeartbeats 40000000
inductive WX where
 | l1 (x7:Int)
def Se (n:Nat) (self:WX -> Option Bool) (sets:List Int) (x7:Int):Option Bool:=
 bif (decide (x7<(sets.length:Int))) then
  if 0<=x7/\ x7<(sets.length:Int) then
   bif ((sets.getD ((x7).toNat) 0)==0) then
    some true
   else
    if AI (x7+1) then
     self (.l1 (x7+1))
    else none
  else none
 else
  some false
def lD (n:Nat) (self:WX -> Option Bool) (sets:List Int):Option Bool:=
 self (.l1 0)
def PV (sets:List Int):Nat -> WX -> Option Bool
 | 0,_=>none
 | n+1,.l1 x7=>Se n (PV sets n) sets x7
def WY (n:Nat) (sets:List Int):Option Bool:=lD n (PV sets n) sets
def zAz (n B:Nat) (N:Yd 0) (sets:List Int) (r:Bool):WX -> Prop
 | .l1 x7=>∀ m0:Nat,n<=m0 -> TW B N (FQ Tryz.f59 0 (.bool r) []) (Ak m0 (Au (AZ Tryz.f59) 0 [])) ⟨AM 14 [(5,.ints sets),(6,.i (sets.length:Int)),(7,.i x7)],[]⟩
theorem zA0 (B:Nat) (N:Yd 0) (sets:List Int):Al (PV sets) (zAz · B N sets):=ia (fun _=>rfl) fun n AG pt r h=>by
 cases pt
 case l1 x7=>
  intro m0 AC;refine rd AC fun m0 AC=>?_
  revert r;apply gO;exact bi 8 (gi (bi 12 (lE AE [2] []) (gw 13 (lG AE [] (AG _ _ · m0 AC))))) (lE AE [2] [])
theorem zAx {n:Nat} {sets:List Int} {r:Bool} (h:WY n sets=some r):EQ 59 [.ints sets] [] (.bool r) [] true:=by
 refine ot Tryz.func59 fun B N=>?_
 revert r;apply gO;exact lN AE [] ((zA0 B N sets n) _ _ · n Nat.le.refl)
def ZD (n:Nat) (pos:List Int):Option Bool:=
 (WY n pos).bind fun y1=>
  some y1
def Hj (n:Nat) (pos:List Int):Option Bool:=ZD n pos
theorem Of {n:Nat} {pos:List Int} {r:Bool} (h:Hj n pos=some r):EQ 27 [.ints pos] [] (.bool r) [] true:=by
 unfold Hj ZD at h;refine ot Tryz.func27 fun B N=>?_
 revert r;apply gO;exact cf zAx [] fun _=>lE AE [2] []
inductive Ub where
 | l1 (x20:Int)
def Q3 (n:Nat) (self:Ub -> Option Int) (q:AA) (pos:List Int) (x20:Int):Option Int:=
 bif (decide (x20<(pos.length:Int))) then
  if 0<=x20/\ x20<(pos.length:Int) then
   bif (decide ((pos.getD ((x20).toNat) 0)<0)) then
    some 250
   else
    if 0<=q.symbols/\ q.symbols<=(IntKind.i64.bits:Int) then
     bif (decide ((pos.getD ((x20).toNat) 0)>=(IntKind.i64.wrap (1*2 ^ (q.symbols).toNat)))) then
      some 250
     else
      if AI (x20+1) then
       self (.l1 (x20+1))
      else none
    else none
  else none
 else
  some 0
def fq (n:Nat) (self:Ub -> Option Int) (q:AA) (pos:List Int):Option Int:=
 (valid n q).bind fun y1=>
  bif (y1 != 0) then
   some y1
  else
   bif ((pos.length:Int) != q.cells) then
    some 250
   else
    self (.l1 0)
def Ma (q:AA) (pos:List Int):Nat -> Ub -> Option Int
 | 0,_=>none
 | n+1,.l1 x20=>Q3 n (Ma q pos n) q pos x20
def Mb (n:Nat) (q:AA) (pos:List Int):Option Int:=fq n (Ma q pos n) q pos
def s7 (n B:Nat) (N:Yd 0) (q:AA) (pos:List Int) (r:Int):Ub -> Prop
 | .l1 x20=>∀ m0:Nat,n<=m0 -> TW B N (FQ Tryz.f37 0 (.i r) []) (Ak m0 (Au (AZ Tryz.f37) 0 [])) ⟨AM 34 [(2,.ref 0 0),(18,.ints pos),(19,.i (pos.length:Int)),(20,.i x20)],[some (.cells (AD q))]⟩
theorem s8 (B:Nat) (N:Yd 0) (q:AA) (pos:List Int):Al (Ma q pos) (s7 · B N q pos):=ia (fun _=>rfl) fun n AG pt r h=>by
 cases pt
 case l1 x20=>
  intro m0 AC;refine rd AC fun m0 AC=>?_
  revert r;apply gO;exact bi 21 (gi (bi 25 (lE AE [4] []) (gi (bi 31 (lE AE [4] []) (gw 33 (lG AE [0] (AG _ _ · m0 AC))))))) (lE AE [4] [])
theorem YN {n:Nat} {q:AA} {pos:List Int} {r:Int} (h:Mb n q pos=some r):EQ 37 [.agg 5 (L1 (AD q)),.ints pos] [] (.i r) [] true:=by
 refine ot Tryz.func37 fun B N=>?_
 revert r;apply gO;exact cf XJ [some (.cells (AD q))] fun _=>bi 11 (lE AE [4] []) (bi 17 (lE AE [4] []) (lN AE [0] ((s8 B N q pos n) _ _ · n Nat.le.refl)))
def lQ (n:Nat) (s_:List Int):Option ((List Int)):=
 if 0<s_.length/\ ((True)/\ (0=0/\ 0=([]:List Int).length)/\ ([]:List Int).length+s_.length<=BE) then
  if ([]:List Int).length+s_.length=(([]:List Int)++s_).length then
   some (([]:List Int)++s_)
  else none
 else none
def Wl (n:Nat) (s_:List Int):Option ((List Int)):=lQ n s_
theorem zBe {n:Nat} {s_:List Int} {r:(List Int)} (h:Wl n s_=some r):EQ 77 [.ints s_] [] (.msl 0 1 0 r.length) [some (.ints r)] true:=by
 refine ot Tryz.func77 fun B N=>?_
 revert r;apply gO;exact gc (gi (gi (gn fun g2=>lF fun p=>el AE [2] [1] p [] H0 [.msl 0 1 0 (([]:List Int).length+s_.length)] (AQ.mslN g2))))
def bN (n:Nat) (s_:List Bool):Option ((List Bool)):=
 if 0<s_.length/\ ((True)/\ (0=0/\ 0=([]:List Bool).length)/\ ([]:List Bool).length+s_.length<=BE) then
  if ([]:List Bool).length+s_.length=(([]:List Bool)++s_).length then
   some (([]:List Bool)++s_)
  else none
 else none
def NY (n:Nat) (s_:List Bool):Option ((List Bool)):=bN n s_
theorem lR {n:Nat} {s_:List Bool} {r:(List Bool)} (h:NY n s_=some r):EQ 122 [.bools s_] [] (.msl 0 1 0 r.length) [some (.bools r)] true:=by
 refine ot Tryz.func122 fun B N=>?_
 revert r;apply gO;exact gc (gi (gi (gn fun g2=>lF fun p=>el AE [2] [1] p [] H0 [.msl 0 1 0 (([]:List Bool).length+s_.length)] (AQ.mslN g2))))
def bO (n:Nat) (q:AA) (i:Int) (pos:List Int):Option Int:=
 (Ms n q i).bind fun y1=>
  bif (y1.2 != 0) then
   some y1.2
  else
   (Mb n q pos).bind fun y2=>
    some y2
def PZ (n:Nat) (q:AA) (i:Int) (pos:List Int):Option Int:=bO n q i pos
theorem zBf {n:Nat} {q:AA} {i:Int} {pos:List Int} {r:Int} (h:PZ n q i pos=some r):EQ 43 [.agg 5 (L1 (AD q)),.i i,.ints pos] [] (.i r) [] true:=by
 unfold PZ bO at h;refine ot Tryz.func43 fun B N=>?_
 revert r;apply gO;exact cf Yv [some (.cells (AD q))] fun _=>bi 16 (lE AE [6] []) (cf YN [some (.cells (AD q))] fun _=>lE AE [6] [])
inductive V0 where
 | l1 (CY:Int)
def SG (n:Nat) (self:V0 -> Option Int) (g_:List (List Int)) (sets:List (List Bool)) (CY:Int):Option Int:=
 bif (decide (CY<(sets.length:Int))) then
  if 0<=CY/\ CY<(sets.length:Int) then
   bif ((((sets.getD ((CY).toNat) []).length:Nat):Int) != (g_.length:Int)) then
    some 1
   else
    if AI (CY+1) then
     self (.l1 (CY+1))
    else none
  else none
 else
  some 0
def kC (n:Nat) (self:V0 -> Option Int) (g_:List (List Int)) (sets:List (List Bool)):Option Int:=
 (SI n g_).bind fun y1=>
  bif (y1 != 0) then
   some y1
  else
   self (.l1 0)
def PA (g_:List (List Int)) (sets:List (List Bool)):Nat -> V0 -> Option Int
 | 0,_=>none
 | n+1,.l1 CY=>SG n (PA g_ sets n) g_ sets CY
def JW (n:Nat) (g_:List (List Int)) (sets:List (List Bool)):Option Int:=kC n (PA g_ sets n) g_ sets
def zi (n B:Nat) (N:Yd 0) (g_:List (List Int)) (sets:List (List Bool)) (r:Int):V0 -> Prop
 | .l1 CY=>∀ m0:Nat,n<=m0 -> TW B N (FQ Tryz.f124 0 (.i r) []) (Ak m0 (Au (AZ Tryz.f124) 0 [])) ⟨AM 25 [(0,.sl 1 g_.length (As A4 g_)),(13,.sl 1 sets.length (As Pb sets)),(14,.i (sets.length:Int)),(15,.i CY)],[]⟩
theorem zj (B:Nat) (N:Yd 0) (g_:List (List Int)) (sets:List (List Bool)):Al (PA g_ sets) (zi · B N g_ sets):=ia (fun _=>rfl) fun n AG pt r h=>by
 cases pt
 case l1 CY=>
  intro m0 AC;refine rd AC fun m0 AC=>?_
  revert r;apply gO;exact bi 16 (gi (bi 23 (lE AE [4] []) (gw 24 (lG AE [] (AG _ _ · m0 AC))))) (lE AE [4] [])
theorem Vy {n:Nat} {g_:List (List Int)} {sets:List (List Bool)} {r:Int} (h:JW n g_ sets=some r):EQ 124 [.sl 1 g_.length (As A4 g_),.sl 1 sets.length (As Pb sets)] [] (.i r) [] true:=by
 refine ot Tryz.func124 fun B N=>?_
 revert r;apply gO;exact cf kG [] fun _=>bi 11 (lE AE [4] []) (lN AE [] ((zj B N g_ sets n) _ _ · n Nat.le.refl))
end Go.Proofs.YtgkhhfnhacibcaaGreatDoor
namespace Go.Proofs.YtgkhhfnhacibcaaGreatDoor
open Go.RowKit
set_option maxRecDepth 100000
set_option maxHeartbeats 40000000
theorem qE:At (BA Tryz.f99 0) [] (List.range 18) [18]:=by unfold At;kernel_rfl
def pH:Bb:=fun i=>match i with
 | 0=>.ord [] (List.range 18) [18]
 | _=>.no
def Yr (n:Nat) (cell ss:Int) (c:AB) (q:AA) (pos:List Int) (ln:Nat) (lost:List Int):Option ((List Int)):=
 if (0<=cell/\ cell<(ln:Int))/\ 0+((cell).toNat)<lost.length/\ (0<=cell/\ cell<(pos.length:Int)) then
  some (lost.set (0+((cell).toNat)) (bits .or .i64 (lost.getD (0+((cell).toNat)) 0) (bits .and .i64 (pos.getD ((cell).toNat) 0) ss)))
 else none
def DP (n:Nat) (cell ss:Int) (c:AB) (q:AA) (pos:List Int) (ln:Nat) (lost:List Int):Option ((List Int)):=Yr n cell ss c q pos ln lost
theorem Fs {n:Nat} {cell ss:Int} {c:AB} {q:AA} {pos:List Int} {ln:Nat} {lost:List Int} {r:(List Int)} (h:DP n cell ss c q pos ln lost=some r):EQ 99 [.ref 0 0,.i cell,.i ss] [some (.cells (AH c++AD q++[.ints pos,.msl 1 1 0 ln])),some (.ints lost)] (.tup 0 (fun j=>([]:List DV).getD j .any)) [some (.cells (AH c++AD q++[.ints pos,.msl 1 1 0 ln])),some (.ints r)] false:=by
 refine ot Tryz.func99 fun B N=>?_
 revert r;apply gO;exact jg qE (gc (gn fun g0=>jg g0 (gc (gn fun g1=>jg g1 (gi (jg g0 (jg g1 (lE pH [] [0,1]))))))))
theorem pz:At (BA Tryz.f100 0) [] (List.range 22) [22]:=by unfold At;kernel_rfl
def pF:Bb:=fun i=>match i with
 | 0=>.ord [] (List.range 22) [22]
 | _=>.no
def YY (n:Nat) (cell:Int) (c:AB) (q:AA) (pos:List Int) (ln:Nat) (lost:List Int):Option ((List Int)):=
 if (0<=cell/\ cell<(ln:Int))/\ 0+((cell).toNat)<lost.length/\ (0<=cell/\ cell<(pos.length:Int)) then
  some (lost.set (0+((cell).toNat)) (bits .or .i64 (lost.getD (0+((cell).toNat)) 0) (bits .andNot .i64 (pos.getD ((cell).toNat) 0) c.set)))
 else none
def GD (n:Nat) (cell:Int) (c:AB) (q:AA) (pos:List Int) (ln:Nat) (lost:List Int):Option ((List Int)):=YY n cell c q pos ln lost
theorem LF {n:Nat} {cell:Int} {c:AB} {q:AA} {pos:List Int} {ln:Nat} {lost:List Int} {r:(List Int)} (h:GD n cell c q pos ln lost=some r):EQ 100 [.ref 0 0,.i cell] [some (.cells (AH c++AD q++[.ints pos,.msl 1 1 0 ln])),some (.ints lost)] (.tup 0 (fun j=>([]:List DV).getD j .any)) [some (.cells (AH c++AD q++[.ints pos,.msl 1 1 0 ln])),some (.ints r)] false:=by
 refine ot Tryz.func100 fun B N=>?_
 revert r;apply gO;exact jg pz (gc (gn fun g0=>jg g0 (gc (gn fun g1=>jg g1 (gi (jg g0 (jg g1 (lE pF [] [0,1]))))))))
inductive Sd where
 | l1 (x3 x4 A8:Int)
 | l2 (x3 x4 B7:Int) (o1:List Int)
def Sc (n:Nat) (self:Sd -> Option (Bool×(List Int))) (c:AB) (q:AA) (pos:List Int) (ln:Nat) (lost:List Int) (x3 x4 A8:Int):Option (Bool×(List Int)):=
 bif (decide (A8<(c.cells.length:Int))) then
  if (0<=A8/\ A8<(c.cells.length:Int))/\ (0<=(c.cells.getD ((A8).toNat) 0)/\ (c.cells.getD ((A8).toNat) 0)<(pos.length:Int))/\ AI ((pos.getD ((c.cells.getD ((A8).toNat) 0).toNat) 0)-1) then
   bif ((bits .and .i64 (pos.getD ((c.cells.getD ((A8).toNat) 0).toNat) 0) ((pos.getD ((c.cells.getD ((A8).toNat) 0).toNat) 0)-1))==0) then
    if AI (A8+1) then
     self (.l1 (bits .or .i64 x3 (pos.getD ((c.cells.getD ((A8).toNat) 0).toNat) 0)) (bits .or .i64 x4 (bits .and .i64 x3 (pos.getD ((c.cells.getD ((A8).toNat) 0).toNat) 0))) (A8+1))
    else none
   else
    if AI (A8+1) then
     self (.l1 x3 x4 (A8+1))
    else none
  else none
 else
  self (.l2 x3 x4 0 lost)
def Sb (n:Nat) (self:Sd -> Option (Bool×(List Int))) (c:AB) (q:AA) (pos:List Int) (ln:Nat) (lost:List Int) (x3 x4 B7:Int) (o1:List Int):Option (Bool×(List Int)):=
 bif (decide (B7<(c.cells.length:Int))) then
  if (0<=B7/\ B7<(c.cells.length:Int))/\ (0<=(c.cells.getD ((B7).toNat) 0)/\ (c.cells.getD ((B7).toNat) 0)<(pos.length:Int))/\ AI ((pos.getD ((c.cells.getD ((B7).toNat) 0).toNat) 0)-1) then
   bif ((bits .and .i64 (pos.getD ((c.cells.getD ((B7).toNat) 0).toNat) 0) ((pos.getD ((c.cells.getD ((B7).toNat) 0).toNat) 0)-1))==0) then
    (DP n (c.cells.getD ((B7).toNat) 0) (bits .or .i64 (bits .andNot .i64 x3 (pos.getD ((c.cells.getD ((B7).toNat) 0).toNat) 0)) x4) c q pos ln o1).bind fun y1=>
     if AI (B7+1) then
      self (.l2 x3 x4 (B7+1) y1)
     else none
   else
    (DP n (c.cells.getD ((B7).toNat) 0) x3 c q pos ln o1).bind fun y1=>
     if AI (B7+1) then
      self (.l2 x3 x4 (B7+1) y1)
     else none
  else none
 else
  some (true,o1)
def lC (n:Nat) (self:Sd -> Option (Bool×(List Int))) (c:AB) (q:AA) (pos:List Int) (ln:Nat) (lost:List Int):Option (Bool×(List Int)):=
 self (.l1 0 0 0)
def JY (c:AB) (q:AA) (pos:List Int) (ln:Nat) (lost:List Int):Nat -> Sd -> Option (Bool×(List Int))
 | 0,_=>none
 | n+1,.l1 x3 x4 A8=>Sc n (JY c q pos ln lost n) c q pos ln lost x3 x4 A8
 | n+1,.l2 x3 x4 B7 o1=>Sb n (JY c q pos ln lost n) c q pos ln lost x3 x4 B7 o1
def PU (n:Nat) (c:AB) (q:AA) (pos:List Int) (ln:Nat) (lost:List Int):Option (Bool×(List Int)):=lC n (JY c q pos ln lost n) c q pos ln lost
def zAu (n B:Nat) (N:Yd 2) (c:AB) (q:AA) (pos:List Int) (ln:Nat) (lost:List Int) (r:Bool×(List Int)):Sd -> Prop
 | .l1 x3 x4 A8=>∀ m0:Nat,n<=m0 -> TW B N (FQ Tryz.f68 2 (.bool r.1) [some (.cells (AH c++AD q++[.ints pos,.msl 1 1 0 ln])),some (.ints r.2)]) (Ak m0 (Au (AZ Tryz.f68) 0 [])) ⟨AM 77 [(0,.ref 0 0),(3,.i x3),(4,.i x4),(15,.ints c.cells),(16,.i (c.cells.length:Int)),(17,.i A8)],[some (.cells (AH c++AD q++[.ints pos,.msl 1 1 0 ln])),some (.ints lost)]⟩
 | .l2 x3 x4 B7 o1=>∀ m0:Nat,n<=m0 -> TW B N (FQ Tryz.f68 2 (.bool r.1) [some (.cells (AH c++AD q++[.ints pos,.msl 1 1 0 ln])),some (.ints r.2)]) (Ak m0 (Au (AZ Tryz.f68) 2 [])) ⟨AM 77 [(0,.ref 0 0),(3,.i x3),(4,.i x4),(46,.ints c.cells),(47,.i (c.cells.length:Int)),(48,.i B7)],[some (.cells (AH c++AD q++[.ints pos,.msl 1 1 0 ln])),some (.ints o1)]⟩
theorem zAv (B:Nat) (N:Yd 2) (c:AB) (q:AA) (pos:List Int) (ln:Nat) (lost:List Int):Al (JY c q pos ln lost) (zAu · B N c q pos ln lost):=ia (fun _=>rfl) fun n AG pt r h=>by
 cases pt
 case l1 x3 x4 A8=>
  intro m0 AC;refine rd AC fun m0 AC=>?_
  revert r;apply gO;exact bi 18 (gc (gi (gc (gi (gw 30 (bi 32 (gw 41 (lG AE [0,1] (AG _ _ · m0 AC))) (gw 41 (lG AE [0,1] (AG _ _ · m0 AC))))))))) (lN AE [0,1] (AG _ _ · n Nat.le.refl))
 case l2 x3 x4 B7 o1=>
  intro m0 AC;refine rd AC fun m0 AC=>?_
  revert r;apply gO;exact bi 49 (gc (gi (gc (gi (gw 61 (bi 63 (ce Fs [0,1] [some (.cells (AH c++AD q++[.ints pos,.msl 1 1 0 ln])),some (.ints o1)] fun _=>gw 76 (lG AE [0,1] (AG _ _ · m0 AC))) (ce Fs [0,1] [some (.cells (AH c++AD q++[.ints pos,.msl 1 1 0 ln])),some (.ints o1)] fun _=>gw 76 (lG AE [0,1] (AG _ _ · m0 AC))))))))) (lE AE [2] [0,1])
theorem zAt {n:Nat} {c:AB} {q:AA} {pos:List Int} {ln:Nat} {lost:List Int} {r:Bool×(List Int)} (h:PU n c q pos ln lost=some r):EQ 68 [.ref 0 0] [some (.cells (AH c++AD q++[.ints pos,.msl 1 1 0 ln])),some (.ints lost)] (.bool r.1) [some (.cells (AH c++AD q++[.ints pos,.msl 1 1 0 ln])),some (.ints r.2)] false:=by
 refine ot Tryz.func68 fun B N=>?_
 revert r;apply gO;exact lN AE [0,1] ((zAv B N c q pos ln lost n) _ _ · n Nat.le.refl)
theorem qN:At (BA Tryz.f69 5) [] (List.range 15) []:=by unfold At;kernel_rfl
theorem qM:At (BA Tryz.f69 8) [] (List.range 15) []:=by unfold At;kernel_rfl
theorem qO:At (BA Tryz.f69 16) [] (List.range 23) []:=by unfold At;kernel_rfl
theorem Xq:At (BA Tryz.f69 18) [] (List.range 23) []:=by unfold At;kernel_rfl
def FU:Bb:=fun i=>match i with
 | 5=>.ord [] (List.range 15) []
 | 8=>.ord [] (List.range 15) []
 | 16=>.ord [] (List.range 23) []
 | 18=>.ord [] (List.range 23) []
 | _=>.no
inductive Sk where
 | l1 (x3 x4 CY:Int)
 | l2 (x3 x4 CB:Int) (o1:List Int)
def Sj (n:Nat) (self:Sk -> Option (Bool×(List Int))) (c:AB) (q:AA) (pos:List Int) (ln:Nat) (lost:List Int) (x3 x4 CY:Int):Option (Bool×(List Int)):=
 bif (decide (CY<(c.cells.length:Int))) then
  if (0<=CY/\ CY<(c.cells.length:Int))/\ (0<=(c.cells.getD ((CY).toNat) 0)/\ (c.cells.getD ((CY).toNat) 0)<(pos.length:Int)) then
   bif ((bits .andNot .i64 (pos.getD ((c.cells.getD ((CY).toNat) 0).toNat) 0) c.set)==0) then
    if AI (x3+1)/\ AI (x4+1)/\ AI (CY+1) then
     self (.l1 (x3+1) (x4+1) (CY+1))
    else none
   else
    bif ((bits .and .i64 (pos.getD ((c.cells.getD ((CY).toNat) 0).toNat) 0) c.set) != 0) then
     if AI (x4+1)/\ AI (CY+1) then
      self (.l1 x3 (x4+1) (CY+1))
     else none
    else
     if AI (CY+1) then
      self (.l1 x3 x4 (CY+1))
     else none
  else none
 else
  bif (decide (x3>c.hi)) then
   some (false,lost)
  else
   bif (decide (x4<c.lo)) then
    some (false,lost)
   else
    self (.l2 x3 x4 0 lost)
def Si (n:Nat) (self:Sk -> Option (Bool×(List Int))) (c:AB) (q:AA) (pos:List Int) (ln:Nat) (lost:List Int) (x3 x4 CB:Int) (o1:List Int):Option (Bool×(List Int)):=
 bif (decide (CB<(c.cells.length:Int))) then
  if 0<=CB/\ CB<(c.cells.length:Int) then
   bif (x3==c.hi) then
    if 0<=(c.cells.getD ((CB).toNat) 0)/\ (c.cells.getD ((CB).toNat) 0)<(pos.length:Int) then
     bif ((bits .andNot .i64 (pos.getD ((c.cells.getD ((CB).toNat) 0).toNat) 0) c.set) != 0) then
      (DP n (c.cells.getD ((CB).toNat) 0) c.set c q pos ln o1).bind fun y1=>
       bif (x4==c.lo) then
        bif ((bits .and .i64 (pos.getD ((c.cells.getD ((CB).toNat) 0).toNat) 0) c.set) != 0) then
         (GD n (c.cells.getD ((CB).toNat) 0) c q pos ln y1).bind fun y2=>
          if AI (CB+1) then
           self (.l2 x3 x4 (CB+1) y2)
          else none
        else
         if AI (CB+1) then
          self (.l2 x3 x4 (CB+1) y1)
         else none
       else
        if AI (CB+1) then
         self (.l2 x3 x4 (CB+1) y1)
        else none
     else
      bif (x4==c.lo) then
       bif ((bits .and .i64 (pos.getD ((c.cells.getD ((CB).toNat) 0).toNat) 0) c.set) != 0) then
        (GD n (c.cells.getD ((CB).toNat) 0) c q pos ln o1).bind fun y1=>
         if AI (CB+1) then
          self (.l2 x3 x4 (CB+1) y1)
         else none
       else
        if AI (CB+1) then
         self (.l2 x3 x4 (CB+1) o1)
        else none
      else
       if AI (CB+1) then
        self (.l2 x3 x4 (CB+1) o1)
       else none
    else none
   else
    bif (x4==c.lo) then
     if 0<=(c.cells.getD ((CB).toNat) 0)/\ (c.cells.getD ((CB).toNat) 0)<(pos.length:Int) then
      bif ((bits .and .i64 (pos.getD ((c.cells.getD ((CB).toNat) 0).toNat) 0) c.set) != 0) then
       (GD n (c.cells.getD ((CB).toNat) 0) c q pos ln o1).bind fun y1=>
        if AI (CB+1) then
         self (.l2 x3 x4 (CB+1) y1)
        else none
      else
       if AI (CB+1) then
        self (.l2 x3 x4 (CB+1) o1)
       else none
     else none
    else
     if AI (CB+1) then
      self (.l2 x3 x4 (CB+1) o1)
     else none
  else none
 else
  some (true,o1)
def zA7 (n:Nat) (self:Sk -> Option (Bool×(List Int))) (c:AB) (q:AA) (pos:List Int) (ln:Nat) (lost:List Int):Option (Bool×(List Int)):=
 self (.l1 0 0 0)
def Io (c:AB) (q:AA) (pos:List Int) (ln:Nat) (lost:List Int):Nat -> Sk -> Option (Bool×(List Int))
 | 0,_=>none
 | n+1,.l1 x3 x4 CY=>Sj n (Io c q pos ln lost n) c q pos ln lost x3 x4 CY
 | n+1,.l2 x3 x4 CB o1=>Si n (Io c q pos ln lost n) c q pos ln lost x3 x4 CB o1
def PW (n:Nat) (c:AB) (q:AA) (pos:List Int) (ln:Nat) (lost:List Int):Option (Bool×(List Int)):=zA7 n (Io c q pos ln lost n) c q pos ln lost
def zA8 (n B:Nat) (N:Yd 2) (c:AB) (q:AA) (pos:List Int) (ln:Nat) (lost:List Int) (r:Bool×(List Int)):Sk -> Prop
 | .l1 x3 x4 CY=>∀ m0:Nat,n<=m0 -> TW B N (FQ Tryz.f69 2 (.bool r.1) [some (.cells (AH c++AD q++[.ints pos,.msl 1 1 0 ln])),some (.ints r.2)]) (Ak m0 (Au (AZ Tryz.f69) 0 [])) ⟨AM 140 [(0,.ref 0 0),(3,.i x3),(4,.i x4),(13,.ints c.cells),(14,.i (c.cells.length:Int)),(15,.i CY)],[some (.cells (AH c++AD q++[.ints pos,.msl 1 1 0 ln])),some (.ints lost)]⟩
 | .l2 x3 x4 CB o1=>∀ m0:Nat,n<=m0 -> TW B N (FQ Tryz.f69 2 (.bool r.1) [some (.cells (AH c++AD q++[.ints pos,.msl 1 1 0 ln])),some (.ints r.2)]) (Ak m0 (Au (AZ Tryz.f69) 3 [])) ⟨AM 140 [(0,.ref 0 0),(3,.i x3),(4,.i x4),(76,.ints c.cells),(77,.i (c.cells.length:Int)),(78,.i CB)],[some (.cells (AH c++AD q++[.ints pos,.msl 1 1 0 ln])),some (.ints o1)]⟩
theorem zA9 (B:Nat) (N:Yd 2) (c:AB) (q:AA) (pos:List Int) (ln:Nat) (lost:List Int):Al (Io c q pos ln lost) (zA8 · B N c q pos ln lost):=ia (fun _=>rfl) fun n AG pt r h=>by
 cases pt
 case l1 x3 x4 CY=>
  intro m0 AC;refine rd AC fun m0 AC=>?_
  revert r;apply gO;exact bi 16 (gc (gi (jg qN (gn fun g1=>jg g1 (bi 33 (gc (gw 35 (gc (gw 37 (gw 55 (lG FU [0,1] (AG _ _ · m0 AC))))))) (jg qM (jg g1 (bi 52 (gc (gw 54 (gw 55 (lG FU [0,1] (AG _ _ · m0 AC))))) (gw 55 (lG FU [0,1] (AG _ _ · m0 AC))))))))))) (bi 62 (lE FU [2] [0,1]) (bi 70 (lE FU [2] [0,1]) (lN FU [0,1] (AG _ _ · n Nat.le.refl))))
 case l2 x3 x4 CB o1=>
  intro m0 AC;refine rd AC fun m0 AC=>?_
  revert r;apply gO;exact bi 79 (gi (jg qO (bi 88 (gn fun g1=>jg g1 (bi 103 (ce Fs [0,1] [some (.cells (AH c++AD q++[.ints pos,.msl 1 1 0 ln])),some (.ints o1)] fun y1=>jg Xq (bi 119 (jg g1 (bi 134 (ce LF [0,1] [some (.cells (AH c++AD q++[.ints pos,.msl 1 1 0 ln])),some (.ints y1)] fun _=>gw 139 (lG FU [0,1] (AG _ _ · m0 AC))) (gw 139 (lG FU [0,1] (AG _ _ · m0 AC))))) (gw 139 (lG FU [0,1] (AG _ _ · m0 AC))))) (jg Xq (bi 119 (jg g1 (bi 134 (ce LF [0,1] [some (.cells (AH c++AD q++[.ints pos,.msl 1 1 0 ln])),some (.ints o1)] fun _=>gw 139 (lG FU [0,1] (AG _ _ · m0 AC))) (gw 139 (lG FU [0,1] (AG _ _ · m0 AC))))) (gw 139 (lG FU [0,1] (AG _ _ · m0 AC))))))) (jg Xq (bi 119 (gi (bi 134 (ce LF [0,1] [some (.cells (AH c++AD q++[.ints pos,.msl 1 1 0 ln])),some (.ints o1)] fun _=>gw 139 (lG FU [0,1] (AG _ _ · m0 AC))) (gw 139 (lG FU [0,1] (AG _ _ · m0 AC))))) (gw 139 (lG FU [0,1] (AG _ _ · m0 AC)))))))) (lE FU [2] [0,1])
theorem zA6 {n:Nat} {c:AB} {q:AA} {pos:List Int} {ln:Nat} {lost:List Int} {r:Bool×(List Int)} (h:PW n c q pos ln lost=some r):EQ 69 [.ref 0 0] [some (.cells (AH c++AD q++[.ints pos,.msl 1 1 0 ln])),some (.ints lost)] (.bool r.1) [some (.cells (AH c++AD q++[.ints pos,.msl 1 1 0 ln])),some (.ints r.2)] false:=by
 refine ot Tryz.func69 fun B N=>?_
 revert r;apply gO;exact lN FU [0,1] ((zA9 B N c q pos ln lost n) _ _ · n Nat.le.refl)
end Go.Proofs.YtgkhhfnhacibcaaGreatDoor
namespace Go.Proofs.YtgkhhfnhacibcaaGreatDoor
open Go.RowKit
set_option maxRecDepth 100000
set_option maxHeartbeats 40000000
def n5 (n:Nat) (Ai:Int):Option Unit:=
 some ()
def n6 (n:Nat) (Ai:Int):Option Unit:=n5 n Ai
theorem n0 {n:Nat} (Ai:Int) {r:Unit} (h:n6 n Ai=some r):EQ 79 [.i Ai] [] (.fn 110 1 (L1 [.ref 0 0])) [some (.cells [.i Ai])] true:=by
 refine ot Tryz.func79 fun B N=>?_
 revert r;apply gO;exact lE AE [2] [0]
theorem Jk {x:Int} (hx:0<=x/\ x<9223372036854775808) (h:DH):EQ 79 [.i x] h (.it h.length) (h++[some (.iter ((BN x).map Bg))]) true:=by
 refine ES.iterOf (n0 (n:=0) x (r:=()) rfl) rfl (by kernel_rfl) (fun args W=>?_) (fun w b o u hg Gb hb hc hr=>nv hx w b o u hg Gb hb hc hr) rfl (fun b hb=>?_) h
 ·exact ke Tryz.func110 (by kernel_rfl) (by kernel_rfl) args W
 ·rw [hb];decide
def de:ST:=.rd 0 (.rd 1 (.rd 2 (.rd 3 (.rd 4 (.rd 5 (.rd 6 (.rd 7 (.rd 8 (.rd 9 (.rd 10 (.rd 11 (.rd 12 (.rd 13 (.rd 14 (.rd 15 (.rd 16 (.rd 17 (.rd 18 (.rd 19 (.ef 20 (.ef 21 (.fin [] [4,5]) (.no)) (.no)))))))))))))))))))))
theorem qK:CQ (BA Tryz.f101 4) [20] de:=by unfold CQ;kernel_rfl
def dc:ST:=.rd 0 (.rd 1 (.ef 2 (.ef 3 (.fin [] [4,5]) (.no)) (.no)))
theorem qJ:CQ (BA Tryz.f101 5) [2] dc:=by unfold CQ;kernel_rfl
def Tt:Bb:=fun i=>match i with
 | 4=>.tre [20] de
 | 5=>.tre [2] dc
 | _=>.no
def yF (c:AB) (q:AA) (pos:List Int) (ln:Nat) (lost:List Int):DH:=[some (.cells (AH c++AD q++[.ints pos,.msl 1 1 0 ln])),some (.ints lost),some (.cells [.ref 0 0]),some (.cells [.i 100]),some (.cells [.i (-1)])]
def yD (c:AB) (q:AA) (pos:List Int) (ln:Nat) (lost:List Int) (ss:Int):DH:=[some (.cells (AH c++AD q++[.ints pos,.msl 1 1 0 ln])),some (.ints lost),some (.cells [.ref 0 0]),some (.cells [.i 100]),some (.cells [.i (-1)]),some (.iter ((BN ss).map Bg))]
def dK (c:AB) (q:AA) (pos:List Int) (ln:Nat) (lost:List Int) (Dh Dg:Int):St:=⟨(AM 32 [(4,.ref 3 0),(5,.ref 4 0)]),([some (.cells (AH c++AD q++[.ints pos,.msl 1 1 0 ln])),some (.ints lost),some (.cells [.ref 0 0]),some (.cells [.i Dh]),some (.cells [.i Dg]),none]:DH)⟩
def yC (c:AB) (q:AA) (pos:List Int) (ln:Nat) (lost:List Int) (Fq Fp:Int):DH:=[some (.cells (AH c++AD q++[.ints pos,.msl 1 1 0 ln])),some (.ints lost),some (.cells [.ref 0 0]),some (.cells [.i Fq]),some (.cells [.i Fp]),none]
def dJ (c:AB) (q:AA) (pos:List Int) (ln:Nat) (lost:List Int) (e8 Fq Fp:Int):St:=⟨(AM 32 [(4,.ref 3 0),(5,.ref 4 0)]),([some (.cells (AH c++AD q++[.ints pos,.msl 1 1 0 ln])),some (.ints lost),some (.cells [.ref 0 0]),some (.cells [.i (if (q.values.getD ((e8).toNat) 0)<Fq then (q.values.getD ((e8).toNat) 0) else Fq)]),some (.cells [.i (if (q.values.getD ((e8).toNat) 0)>Fp then (q.values.getD ((e8).toNat) 0) else Fp)]),none]:DH)⟩
inductive Ll where
 | s0 (Fq Fp:Int)
def kn (c:AB) (q:AA) (pos:List Int) (ln:Nat) (lost:List Int):Ll -> DH
 | .s0 Fq Fp=>[some (.cells (AH c++AD q++[.ints pos,.msl 1 1 0 ln])),some (.ints lost),some (.cells [.ref 0 0]),some (.cells [.i Fq]),some (.cells [.i Fp]),none]
def km (n:Nat) (c:AB) (q:AA) (pos:List Int) (ln:Nat) (lost:List Int) (e8:Int) (Fq Fp:Int):Option Ll:=
 if 0<=e8/\ e8<(q.values.length:Int) then
  some (.s0 (if (q.values.getD ((e8).toNat) 0)<Fq then (q.values.getD ((e8).toNat) 0) else Fq) (if (q.values.getD ((e8).toNat) 0)>Fp then (q.values.getD ((e8).toNat) 0) else Fp))
 else none
def kj (n:Nat) (c:AB) (q:AA) (pos:List Int) (ln:Nat) (lost:List Int) (e8:Int):Ll -> Option Ll
 | .s0 Fq Fp=>km n c q pos ln lost e8 Fq Fp
def SV (n:Nat) (c:AB) (q:AA) (pos:List Int) (ln:Nat) (lost:List Int) (e8:Int) (s:Ll):Option Ll:=kj n c q pos ln lost e8 s
theorem zAa (n:Nat) (c:AB) (q:AA) (pos:List Int) (ln:Nat) (lost:List Int) (l B:Nat) (N:Yd 6) (e8:Int) (s:Ll) (r:Ll) (h:SV n c q pos ln lost e8 s=some r):TA l B N (DT 6 [] 0 (kn c q pos ln lost r)) Tryz.f101 8 ⟨AM 32 [(2,.ref 2 0),(4,.ref 3 0),(5,.ref 4 0),(8,.it 5),(9,.i e8)],kn c q pos ln lost s⟩:=by
 cases s with
 | s0 Fq Fp=>
  refine ag Tt [0,1,2,3,4,5] H0 (AM 32 [(2,.ref 2 0),(4,.ref 3 0),(5,.ref 4 0),(6,.i e8)]) (yC c q pos ln lost Fq Fp) fun N=>?_
  revert r;apply gO;exact jg qK (gn fun mB=>jg mB (jg mB (jt (jt (jg (Eq.refl (dJ c q pos ln lost e8 Fq Fp)) (lF fun p=>rr (tg:=[([(20,3)],(dJ c q pos ln lost e8 Fq Fp))]) Tt [0,1,2,3,4,5] rfl p))))))
def ki (n:Nat) (ss:Int) (c:AB) (q:AA) (pos:List Int) (ln:Nat) (lost:List Int):Option (Int×Int×(List Int)):=
 if 0<=ss/\ ss<9223372036854775808 then
  (B6 (SV n c q pos ln lost) (BN ss) (.s0 100 (-1))).bind fun y1=>
   match y1 with
   | .s0 Dh Dg=>
    some (Dh,Dg,lost)
 else none
def SW (n:Nat) (ss:Int) (c:AB) (q:AA) (pos:List Int) (ln:Nat) (lost:List Int):Option (Int×Int×(List Int)):=ki n ss c q pos ln lost
theorem PQ {n:Nat} {ss:Int} {c:AB} {q:AA} {pos:List Int} {ln:Nat} {lost:List Int} {r:Int×Int×(List Int)} (h:SW n ss c q pos ln lost=some r):EQ 101 [.ref 0 0,.i ss] [some (.cells (AH c++AD q++[.ints pos,.msl 1 1 0 ln])),some (.ints lost)] (.tup 2 (L1 [.i r.1,.i r.2.1])) [some (.cells (AH c++AD q++[.ints pos,.msl 1 1 0 ln])),some (.ints r.2.2)] false:=by
 refine ot Tryz.func101 fun B N=>?_
 revert r;apply gO
 exact jt (jt (gn fun g0=>jc (Jk g0 (yF c q pos ln lost)) (cn fun y1 A0=>fun p r h=>by
  refine gs Tt [0,1,2,3,4,5] p (Gi (AZ Tryz.f101) 8 []) (AM 32 [(2,.ref 2 0),(4,.ref 3 0),(5,.ref 4 0),(8,.it 5)]) (yD c q pos ln lost ss) ?_;refine r0 5 8 #[9] Bg 6 A0 (zAa n c q pos ln lost) ?_;cases y1 with
  | s0 Dh Dg=>
   dsimp only at h
   revert r;apply gO;exact jg qJ (jt (jt (jg (Eq.refl (dK c q pos ln lost Dh Dg)) (lE (tg:=[([(2,3)],(dK c q pos ln lost Dh Dg))]) Tt [4,5] [0,1,3,4])))))))
def dO:ST:=.rd 0 (.rd 1 (.rd 2 (.rd 3 (.rd 4 (.rd 5 (.rd 6 (.rd 7 (.ef 8 (.rd 9 (.rd 10 (.rd 11 (.rd 12 (.rd 13 (.fin [] [1,3,4,7,8,19,20,21,90])))))) (.no)))))))))
theorem pR:CQ (BA Tryz.f70 5) [] dO:=by unfold CQ;kernel_rfl
def dN:ST:=.rd 0 (.rd 1 (.rd 2 (.rd 3 (.rd 4 (.rd 5 (.ef 6 (.ef 7 (.fin [] [1,3,4,19,20,21,90]) (.no)) (.no)))))))
theorem pQ:CQ (BA Tryz.f70 6) [6] dN:=by unfold CQ;kernel_rfl
theorem pP:At (BA Tryz.f70 8) [] (List.range 16) []:=by unfold At;kernel_rfl
def dR:ST:=.rd 0 (.rd 1 (.rd 2 (.rd 3 (.rd 4 (.rd 5 (.rd 6 (.rd 7 (.ef 8 (.rd 9 (.rd 10 (.rd 11 (.ef 12 (.ef 13 (.ef 14 (.ef 15 (.fin [0,1] [1,3,4,10,11,12,64,65,66,90]) (.no)) (.no)) (.no)) (.ef 13 (.ef 12 (.ef 14 (.ef 15 (.fin [1,0] [1,3,4,10,11,12,64,65,66,90]) (.no)) (.no)) (.no)) (.no)))))) (.ef 12 (.ef 8 (.rd 9 (.rd 10 (.rd 11 (.ef 13 (.ef 14 (.ef 15 (.fin [0,1] [1,3,4,10,11,12,64,65,66,90]) (.no)) (.no)) (.no))))) (.ef 13 (.ef 8 (.rd 9 (.rd 10 (.rd 11 (.ef 14 (.ef 15 (.fin [0,1] [1,3,4,10,11,12,64,65,66,90]) (.no)) (.no))))) (.no)) (.no))) (.ef 13 (.ef 8 (.rd 9 (.rd 10 (.rd 11 (.ef 12 (.ef 14 (.ef 15 (.fin [1,0] [1,3,4,10,11,12,64,65,66,90]) (.no)) (.no)) (.no))))) (.ef 12 (.ef 8 (.rd 9 (.rd 10 (.rd 11 (.ef 14 (.ef 15 (.fin [1,0] [1,3,4,10,11,12,64,65,66,90]) (.no)) (.no))))) (.no)) (.no))) (.no)))))))))))
theorem pU:CQ (BA Tryz.f70 13) [12,13,14] dR:=by unfold CQ;kernel_rfl
theorem pT:At (BA Tryz.f70 14) [([0,1,2,3,4,5,6],7)] [] []:=by unfold At;kernel_rfl
theorem pS:At (BA Tryz.f70 17) [] (List.range 24) []:=by unfold At;kernel_rfl
def dQ:ST:=.rd 0 (.rd 1 (.rd 2 (.rd 3 (.ef 4 (.fin [] [2]) (.no)))))
theorem eL:CQ (BA Tryz.f70 18) [] dQ:=by unfold CQ;kernel_rfl
def Ha:Bb:=fun i=>match i with
 | 5=>.tre [] dO
 | 6=>.tre [6] dN
 | 8=>.ord [] (List.range 16) []
 | 13=>.tre [12,13,14] dR
 | 14=>.ord [([0,1,2,3,4,5,6],7)] [] []
 | 17=>.ord [] (List.range 24) []
 | 18=>.tre [] dQ
 | _=>.no
def xA (c:AB) (q:AA) (pos:List Int) (ln:Nat) (o1:List Int) (AS Aj:Int):DH:=[some (.cells (AH c++AD q++[.ints pos,.msl 1 1 0 ln])),some (.ints o1),some (.cells [.ref 0 0]),some (.cells [.i AS]),some (.cells [.i Aj])]
def cx (y1:Int×Int×(List Int)) (c:AB) (x21:Int) (q:AA) (pos:List Int) (ln:Nat) (AS Aj:Int):St:=⟨(AM 129 [(1,.ref 2 0),(3,.ref 3 0),(4,.ref 4 0),(7,.i y1.1),(8,.i y1.2.1),(19,.ints c.cells),(20,.i (c.cells.length:Int)),(21,.i x21)]),([some (.cells (AH c++AD q++[.ints pos,.msl 1 1 0 ln])),some (.ints y1.2.2),some (.cells [.ref 0 0]),some (.cells [.i AS]),some (.cells [.i Aj])]:DH)⟩
def cw (c:AB) (x21:Int) (q:AA) (pos:List Int) (ln:Nat) (y1:Int×Int×(List Int)) (AS Aj:Int):St:=⟨(AM 129 [(1,.ref 2 0),(3,.ref 3 0),(4,.ref 4 0),(19,.ints c.cells),(20,.i (c.cells.length:Int)),(21,.i x21)]),([some (.cells (AH c++AD q++[.ints pos,.msl 1 1 0 ln])),some (.ints y1.2.2),some (.cells [.ref 0 0]),some (.cells [.i (AS+y1.1)]),some (.cells [.i (Aj+y1.2.1)])]:DH)⟩
def w9 (c:AB) (q:AA) (pos:List Int) (ln:Nat) (o1:List Int) (AS Aj Ag:Int):DH:=[some (.cells (AH c++AD q++[.ints pos,.msl 1 1 0 ln])),some (.ints o1),some (.cells [.ref 0 0]),some (.cells [.i AS]),some (.cells [.i Aj]),some (.cells [.i (c.cells.getD ((Ag).toNat) 0)])]
def L9 (c:AB) (Ag:Int) (q:AA) (pos:List Int) (ln:Nat) (y1:Int×Int×(List Int)) (AS Aj:Int):St:=⟨(AM 129 [(1,.ref 2 0),(3,.ref 3 0),(4,.ref 4 0),(10,.ref 5 0),(11,.ref 6 0),(12,.ref 7 0),(64,.ints c.cells),(65,.i (c.cells.length:Int)),(66,.i Ag)]),([some (.cells (AH c++AD q++[.ints pos,.msl 1 1 0 ln])),some (.ints y1.2.2),some (.cells [.ref 0 0]),some (.cells [.i AS]),some (.cells [.i Aj]),some (.cells [.i (c.cells.getD ((Ag).toNat) 0)]),some (.cells [.i y1.1]),some (.cells [.i y1.2.1])]:DH)⟩
def jB (c:AB) (q:AA) (pos:List Int) (ln:Nat) (o1:List Int) (AS Aj Ag:Int):DH:=[some (.cells (AH c++AD q++[.ints pos,.msl 1 1 0 ln])),some (.ints o1),some (.cells [.ref 0 0]),some (.cells [.i AS]),some (.cells [.i Aj]),some (.cells [.i (c.cells.getD ((Ag).toNat) 0)]),some (.cells [.i 0])]
def jA (c:AB) (q:AA) (pos:List Int) (ln:Nat) (o1:List Int) (AS Aj Ag:Int):DH:=[some (.cells (AH c++AD q++[.ints pos,.msl 1 1 0 ln])),some (.ints o1),some (.cells [.ref 0 0]),some (.cells [.i AS]),some (.cells [.i Aj]),some (.cells [.i (c.cells.getD ((Ag).toNat) 0)]),some (.cells [.i 0]),some (.cells [.i 0])]
def w8 (c:AB) (q:AA) (pos:List Int) (ln:Nat) (y1:Int×Int×(List Int)) (AS Aj Ag:Int):DH:=[some (.cells (AH c++AD q++[.ints pos,.msl 1 1 0 ln])),some (.ints y1.2.2),some (.cells [.ref 0 0]),some (.cells [.i AS]),some (.cells [.i Aj]),some (.cells [.i (c.cells.getD ((Ag).toNat) 0)]),some (.cells [.i y1.1]),some (.cells [.i y1.2.1])]
def w7 (c:AB) (q:AA) (pos:List Int) (ln:Nat) (y1:Int×Int×(List Int)) (AS Aj Ag:Int):DH:=[some (.cells (AH c++AD q++[.ints pos,.msl 1 1 0 ln])),some (.ints y1.2.2),some (.cells [.ref 0 0]),some (.cells [.i AS]),some (.cells [.i Aj]),some (.cells [.i (c.cells.getD ((Ag).toNat) 0)]),some (.cells [.i y1.1]),some (.cells [.i y1.2.1]),some (.iter ((BN (pos.getD ((c.cells.getD ((Ag).toNat) 0).toNat) 0)).map Bg))]
def Zo (c:AB) (q:AA) (pos:List Int) (ln:Nat) (GA:List Int) (AS Aj Ag:Int) (y1:Int×Int×(List Int)):DH:=[some (.cells (AH c++AD q++[.ints pos,.msl 1 1 0 ln])),some (.ints GA),some (.cells [.ref 0 0]),some (.cells [.i AS]),some (.cells [.i Aj]),some (.cells [.i (c.cells.getD ((Ag).toNat) 0)]),some (.cells [.i y1.1]),some (.cells [.i y1.2.1]),none]
def Tb (c:AB) (q:AA) (pos:List Int) (ln:Nat) (Ir:(List Int)) (AS Aj Ag:Int) (y1:Int×Int×(List Int)):St:=⟨(AM 129 []),([some (.cells (AH c++AD q++[.ints pos,.msl 1 1 0 ln])),some (.ints Ir),some (.cells [.ref 0 0]),some (.cells [.i AS]),some (.cells [.i Aj]),some (.cells [.i (c.cells.getD ((Ag).toNat) 0)]),some (.cells [.i y1.1]),some (.cells [.i y1.2.1]),none]:DH)⟩
inductive Jl where
 | s0 (GA:List Int)
def dj (c:AB) (Ag:Int) (q:AA) (pos:List Int) (ln:Nat) (AS Aj:Int) (y1:Int×Int×(List Int)):Jl -> DH
 | .s0 GA=>[some (.cells (AH c++AD q++[.ints pos,.msl 1 1 0 ln])),some (.ints GA),some (.cells [.ref 0 0]),some (.cells [.i AS]),some (.cells [.i Aj]),some (.cells [.i (c.cells.getD ((Ag).toNat) 0)]),some (.cells [.i y1.1]),some (.cells [.i y1.2.1]),none]
def Ti (n:Nat) (c:AB) (Ag:Int) (q:AA) (pos:List Int) (ln:Nat) (AS Aj:Int) (y1:Int×Int×(List Int)) (Eb:Int) (GA:List Int):Option Jl:=
 if (0<=Eb/\ Eb<(q.values.length:Int))/\ AI (AS-y1.1)/\ AI ((AS-y1.1)+(q.values.getD ((Eb).toNat) 0)) then
  bif (decide (((AS-y1.1)+(q.values.getD ((Eb).toNat) 0))>c.hi)) then
   if 0<=Eb/\ Eb<=(IntKind.i64.bits:Int) then
    (DP n (c.cells.getD ((Ag).toNat) 0) (IntKind.i64.wrap (1*2 ^ (Eb).toNat)) c q pos ln GA).bind fun Ir=>
     some (.s0 Ir)
   else none
  else
   if AI (Aj-y1.2.1)/\ AI ((Aj-y1.2.1)+(q.values.getD ((Eb).toNat) 0)) then
    bif (decide (((Aj-y1.2.1)+(q.values.getD ((Eb).toNat) 0))<c.lo)) then
     if 0<=Eb/\ Eb<=(IntKind.i64.bits:Int) then
      (DP n (c.cells.getD ((Ag).toNat) 0) (IntKind.i64.wrap (1*2 ^ (Eb).toNat)) c q pos ln GA).bind fun Ir=>
       some (.s0 Ir)
     else none
    else
     some (.s0 GA)
   else none
 else none
def di (n:Nat) (c:AB) (Ag:Int) (q:AA) (pos:List Int) (ln:Nat) (AS Aj:Int) (y1:Int×Int×(List Int)) (Eb:Int):Jl -> Option Jl
 | .s0 GA=>Ti n c Ag q pos ln AS Aj y1 Eb GA
def Tj (n:Nat) (c:AB) (Ag:Int) (q:AA) (pos:List Int) (ln:Nat) (AS Aj:Int) (y1:Int×Int×(List Int)) (Eb:Int) (s:Jl):Option Jl:=di n c Ag q pos ln AS Aj y1 Eb s
theorem oE (n:Nat) (c:AB) (Ag:Int) (q:AA) (pos:List Int) (ln:Nat) (AS Aj:Int) (y1:Int×Int×(List Int)) (l B:Nat) (N:Yd 9) (Eb:Int) (s:Jl) (r:Jl) (h:Tj n c Ag q pos ln AS Aj y1 Eb s=some r):TA l B N (DT 9 [] 0 (dj c Ag q pos ln AS Aj y1 r)) Tryz.f70 89 ⟨AM 129 [(1,.ref 2 0),(3,.ref 3 0),(4,.ref 4 0),(10,.ref 5 0),(11,.ref 6 0),(12,.ref 7 0),(64,.ints c.cells),(65,.i (c.cells.length:Int)),(66,.i Ag),(89,.it 8),(90,.i Eb)],dj c Ag q pos ln AS Aj y1 s⟩:=by
 cases s with
 | s0 GA=>
  replace h:Ti n c Ag q pos ln AS Aj y1 Eb GA=some r:=h;unfold Ti at h;refine ag Ha [0,1,2,3,4,5,6,7,8] H0 (AM 129 [(1,.ref 2 0),(3,.ref 3 0),(4,.ref 4 0),(10,.ref 5 0),(11,.ref 6 0),(12,.ref 7 0),(13,.i Eb)]) (Zo c q pos ln GA AS Aj Ag y1) fun N=>?_
  revert r;apply gO;exact gc (gi (jg pS (gc (gw 101 (gw 103 (bi 109 (jg eL (gi (ce Fs [0,1] (Zo c q pos ln GA AS Aj Ag y1) fun Ir=>jg (Eq.refl (Tb c q pos ln Ir AS Aj Ag y1)) (lF fun p=>rr (tg:=[([],(Tb c q pos ln Ir AS Aj Ag y1))]) Ha [0,1,2,3,4,5,6,7,8] rfl p)))) (gc (gw 113 (gw 115 (bi 121 (jg eL (gi (ce Fs [0,1] (Zo c q pos ln GA AS Aj Ag y1) fun Ir=>jg (Eq.refl (Tb c q pos ln Ir AS Aj Ag y1)) (lF fun p=>rr (tg:=[([],(Tb c q pos ln Ir AS Aj Ag y1))]) Ha [0,1,2,3,4,5,6,7,8] rfl p)))) (lF fun p=>rr Ha [0,1,2,3,4,5,6,7,8] rfl p)))))))))))
inductive P9 where
 | l1 (x21:Int) (o1:List Int) (AS Aj:Int)
 | l2 (Ag:Int) (o1:List Int) (AS Aj:Int)
def P8 (n:Nat) (self:P9 -> Option (Bool×(List Int))) (c:AB) (q:AA) (pos:List Int) (ln:Nat) (lost:List Int) (x21:Int) (o1:List Int) (AS Aj:Int):Option (Bool×(List Int)):=
 bif (decide (x21<(c.cells.length:Int))) then
  if (0<=x21/\ x21<(c.cells.length:Int))/\ (0<=(c.cells.getD ((x21).toNat) 0)/\ (c.cells.getD ((x21).toNat) 0)<(pos.length:Int)) then
   (SW n (pos.getD ((c.cells.getD ((x21).toNat) 0).toNat) 0) c q pos ln o1).bind fun y1=>
    if AI (AS+y1.1)/\ AI (Aj+y1.2.1)/\ AI (x21+1) then
     self (.l1 (x21+1) y1.2.2 (AS+y1.1) (Aj+y1.2.1))
    else none
  else none
 else
  bif (decide (AS>c.hi)) then
   some (false,o1)
  else
   bif (decide (Aj<c.lo)) then
    some (false,o1)
   else
    self (.l2 0 o1 AS Aj)
def P7 (n:Nat) (self:P9 -> Option (Bool×(List Int))) (c:AB) (q:AA) (pos:List Int) (ln:Nat) (lost:List Int) (Ag:Int) (o1:List Int) (AS Aj:Int):Option (Bool×(List Int)):=
 bif (decide (Ag<(c.cells.length:Int))) then
  if (0<=Ag/\ Ag<(c.cells.length:Int))/\ (0<=(c.cells.getD ((Ag).toNat) 0)/\ (c.cells.getD ((Ag).toNat) 0)<(pos.length:Int)) then
   (SW n (pos.getD ((c.cells.getD ((Ag).toNat) 0).toNat) 0) c q pos ln o1).bind fun y1=>
    if 0<=(pos.getD ((c.cells.getD ((Ag).toNat) 0).toNat) 0)/\ (pos.getD ((c.cells.getD ((Ag).toNat) 0).toNat) 0)<9223372036854775808 then
     (B6 (Tj n c Ag q pos ln AS Aj y1) (BN (pos.getD ((c.cells.getD ((Ag).toNat) 0).toNat) 0)) (.s0 y1.2.2)).bind fun y2=>
      match y2 with
      | .s0 Kk=>
       if AI (Ag+1) then
        self (.l2 (Ag+1) Kk AS Aj)
       else none
    else none
  else none
 else
  some (true,o1)
def oD (n:Nat) (self:P9 -> Option (Bool×(List Int))) (c:AB) (q:AA) (pos:List Int) (ln:Nat) (lost:List Int):Option (Bool×(List Int)):=
 self (.l1 0 lost 0 0)
def IB (c:AB) (q:AA) (pos:List Int) (ln:Nat) (lost:List Int):Nat -> P9 -> Option (Bool×(List Int))
 | 0,_=>none
 | n+1,.l1 x21 o1 AS Aj=>P8 n (IB c q pos ln lost n) c q pos ln lost x21 o1 AS Aj
 | n+1,.l2 Ag o1 AS Aj=>P7 n (IB c q pos ln lost n) c q pos ln lost Ag o1 AS Aj
def Nz (n:Nat) (c:AB) (q:AA) (pos:List Int) (ln:Nat) (lost:List Int):Option (Bool×(List Int)):=oD n (IB c q pos ln lost n) c q pos ln lost
def oF (n B:Nat) (N:Yd 2) (c:AB) (q:AA) (pos:List Int) (ln:Nat) (lost:List Int) (r:Bool×(List Int)):P9 -> Prop
 | .l1 x21 o1 AS Aj=>∀ m0:Nat,n<=m0 -> TW B N (FQ Tryz.f70 2 (.bool r.1) [some (.cells (AH c++AD q++[.ints pos,.msl 1 1 0 ln])),some (.ints r.2)]) (Ak m0 (Au (AZ Tryz.f70) 0 [])) ⟨AM 129 [(1,.ref 2 0),(3,.ref 3 0),(4,.ref 4 0),(19,.ints c.cells),(20,.i (c.cells.length:Int)),(21,.i x21)],[some (.cells (AH c++AD q++[.ints pos,.msl 1 1 0 ln])),some (.ints o1),some (.cells [.ref 0 0]),some (.cells [.i AS]),some (.cells [.i Aj])]⟩
 | .l2 Ag o1 AS Aj=>∀ m0:Nat,n<=m0 -> TW B N (FQ Tryz.f70 2 (.bool r.1) [some (.cells (AH c++AD q++[.ints pos,.msl 1 1 0 ln])),some (.ints r.2)]) (Ak m0 (Au (AZ Tryz.f70) 2 [])) ⟨AM 129 [(1,.ref 2 0),(3,.ref 3 0),(4,.ref 4 0),(64,.ints c.cells),(65,.i (c.cells.length:Int)),(66,.i Ag)],[some (.cells (AH c++AD q++[.ints pos,.msl 1 1 0 ln])),some (.ints o1),some (.cells [.ref 0 0]),some (.cells [.i AS]),some (.cells [.i Aj])]⟩
theorem oG (B:Nat) (N:Yd 2) (c:AB) (q:AA) (pos:List Int) (ln:Nat) (lost:List Int):Al (IB c q pos ln lost) (oF · B N c q pos ln lost):=ia (fun _=>rfl) fun n AG pt r h=>by
 cases pt
 case l1 x21 o1 AS Aj=>
  intro m0 AC;refine rd AC fun m0 AC=>?_
  revert r;apply gO;exact bi 22 (gc (gi (jg pR (gi (ce PQ [0,1] (xA c q pos ln o1 AS Aj) fun y1=>jg (Eq.refl (cx y1 c x21 q pos ln AS Aj)) (jg pQ (gc (gw 39 (gc (gw 42 (jt (jt (jg (Eq.refl (cw c x21 q pos ln y1 AS Aj)) (gw 43 (lG (tg:=[([],(cx y1 c x21 q pos ln AS Aj)),([(6,3)],(cw c x21 q pos ln y1 AS Aj))]) Ha [0,1,2,3,4] (AG _ _ · m0 AC)))))))))))))))) (jg pP (bi 50 (lE Ha [2] [0,1]) (bi 58 (lE Ha [2] [0,1]) (lN Ha [0,1,2,3,4] (AG _ _ · n Nat.le.refl)))))
 case l2 Ag o1 AS Aj=>
  intro m0 AC;refine rd AC fun m0 AC=>?_
  revert r;apply gO
  exact bi 67 (gc (gi (jt (jg pU (gn fun g1=>jg g1 (cn fun y1 A0=>jc (em (PQ A0) [0,1] (w9 c q pos ln o1 AS Aj Ag)) (jt (jt (jg (Eq.refl (L9 c Ag q pos ln y1 AS Aj)) (jt (jt (jg (Eq.refl (L9 c Ag q pos ln y1 AS Aj)) (jc (em (PQ A0) [0,1] (jB c q pos ln o1 AS Aj Ag)) (jt (jt (jg (Eq.refl (L9 c Ag q pos ln y1 AS Aj)) (jc (em (PQ A0) [0,1] (jA c q pos ln o1 AS Aj Ag)) (jt (jt (jg (Eq.refl (L9 c Ag q pos ln y1 AS Aj)) (jc (em (PQ A0) [0,1] (jB c q pos ln o1 AS Aj Ag)) (jt (jt (jg (Eq.refl (L9 c Ag q pos ln y1 AS Aj)) (jc (em (PQ A0) [0,1] (jA c q pos ln o1 AS Aj Ag)) (jt (jt (jg (Eq.refl (L9 c Ag q pos ln y1 AS Aj)) (jg pT (jg g1 (gn fun g2=>jc (Jk g2 (w8 c q pos ln y1 AS Aj Ag)) (cn fun y2 Bt=>fun p r h=>by
   refine gs (tg:=[([],(L9 c Ag q pos ln y1 AS Aj))]) Ha [0,1,2,3,4,5,6,7,8] p (Gi (AZ Tryz.f70) 89 [m0]) (AM 129 [(1,.ref 2 0),(3,.ref 3 0),(4,.ref 4 0),(10,.ref 5 0),(11,.ref 6 0),(12,.ref 7 0),(64,.ints c.cells),(65,.i (c.cells.length:Int)),(66,.i Ag),(89,.it 8)]) (w7 c q pos ln y1 AS Aj Ag) ?_;refine r0 8 89 #[90] Bg 9 Bt (oE n c Ag q pos ln AS Aj y1) ?_;cases y2 with
   | s0 Kk=>
    dsimp only at h
    revert r;apply gO;exact gw 128 (lG Ha [0,1,2,3,4] (AG _ _ · m0 AC)))))))))))))))))))))))))))))))))) (lE Ha [2] [0,1])
theorem oC {n:Nat} {c:AB} {q:AA} {pos:List Int} {ln:Nat} {lost:List Int} {r:Bool×(List Int)} (h:Nz n c q pos ln lost=some r):EQ 70 [.ref 0 0] [some (.cells (AH c++AD q++[.ints pos,.msl 1 1 0 ln])),some (.ints lost)] (.bool r.1) [some (.cells (AH c++AD q++[.ints pos,.msl 1 1 0 ln])),some (.ints r.2)] false:=by
 refine ot Tryz.func70 fun B N=>?_
 revert r;apply gO;exact jt (jt (lN Ha [0,1,2,3,4] ((oG B N c q pos ln lost n) _ _ · n Nat.le.refl)))
end Go.Proofs.YtgkhhfnhacibcaaGreatDoor
