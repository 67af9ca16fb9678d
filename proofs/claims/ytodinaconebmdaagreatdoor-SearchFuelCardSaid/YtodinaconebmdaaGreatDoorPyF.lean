/- Part 6 of 7 of what the proofs of these laws stand on. -/
import Derived.Test.YtodinaconebmdaaGreatDoorPyE
import Derived.RangeFuncLeaves
import Derived.RecoverIn
set_option linter.all false
namespace Go.Proofs.YtodinaconebmdaaGreatDoor
open Go.RowKit
section
variable {q:AA} {level:Int} {p:List Int}
def FT (q:AA)(level:Int)(k:Nat):List Int:=((List.range k).filter fun i:Nat=>decide (Ic (con q (i:Int)).kind<=level)).map fun i:Nat=>(i:Int)
def AS (q:AA)(level:Int):List Int:=FT q level q.cons.length
theorem rt {k:Nat}:FT q level (k+1)=FT q level k++if Ic (con q (k:Int)).kind<=level then [(k:Int)] else []:=by
 unfold FT;rw [List.range_succ,List.filter_append,List.map_append]
 congr 1
 by_cases h:Ic (con q (k:Int)).kind<=level
 ·rw [zAA h];simp [h]
 ·rw [zAY h];simp [h]
theorem Sh {k:Nat}:(FT q level k).length<=k:=by
 unfold FT;rw [zCM];exact zAa (zHJ _ _) (zHR zF8)
theorem KT {i:Int}:i∈AS q level↔Up q level i:=by
 unfold AS FT Up;rw [zDi];constructor
 ·rintro ⟨k,h,rfl⟩;rw [zGB,zBf,zBq] at h;exact ⟨by omega,by omega,h.2⟩
 ·rintro ⟨h0,h1,h2⟩;refine ⟨i.toNat,?_,by omega⟩;rw [zGB,zBf,zBq];have e:((i.toNat:Nat):Int)=i:=by omega
  exact ⟨by omega,by rw [e];exact h2⟩
def Gj (acc:List Int)(k:Nat):QN:=if acc= [] then .l1 (k:Int) else .l2 acc.length (k:Int) acc
theorem mZ (hv:DG q=true){k:Nat}(hk:k<q.cons.length):Id q (k:Int)=(Ic (con q (k:Int)).kind,0):=by
 unfold Id;rw [zAY (by rw [hv];exact fun h=>by cases h),zAA ⟨by omega,by omega⟩];rfl
theorem rz (hF:EC q)(hv:DG q=true){n k:Nat}(hn:GE q<=n)(hk:k<q.cons.length):HQ q level (n+1) (Gj (FT q level k) k)=HQ q level n (Gj (FT q level (k+1)) (k+1)):=by
 have h4:=(EF hv).2.2.2.2.1;have AK:decide ((k:Int)<(q.cons.length:Int))=true:=zAU (by omega);have hr:AH ((k:Int)+1):=Aw.2 ⟨by omega,by omega⟩;have ek:((k+1:Nat):Int)=(k:Int)+1:=by omega
 rw [rt]
 by_cases ha:FT q level k= []
 ·rw [ha,zFe]
  show Sk n (HQ q level n) q level (k:Int)=_
  unfold Sk;rw [AK,zAK,bf hF hn,zAB,mZ hv hk]
  show (bif decide (Ic (con q (k:Int)).kind<=level) then _ else _)=_
  by_cases hl:Ic (con q (k:Int)).kind<=level
  ·rw [zAU hl,zAK,zAA hl,zAA ⟨⟨⟨rfl,rfl⟩,Nat.one_pos,by unfold A3;simp⟩,hr⟩]
   show _=HQ q level n (Gj [(k:Int)] (k+1))
   unfold Gj;rw [zAY (by simp),ek]
  ·rw [zAI hl,zAC,zAY hl,zAA hr]
   show _=HQ q level n (Gj [] (k+1))
   unfold Gj;rw [zAA rfl,ek]
 ·have Af:=Sh (q:=q) (level:=level) (k:=k);have e0:Gj (FT q level k) k= .l2 (FT q level k).length (k:Int) (FT q level k):=by unfold Gj;rw [zAY ha]
  rw [e0]
  show Sj n (HQ q level n) q level (FT q level k).length (k:Int) (FT q level k)=_
  unfold Sj;rw [AK,zAK,bf hF hn,zAB,mZ hv hk]
  show (bif decide (Ic (con q (k:Int)).kind<=level) then _ else _)=_
  by_cases hl:Ic (con q (k:Int)).kind<=level
  ·rw [zAU hl,zAK,zAA hl,zAA ⟨⟨⟨rfl,rfl⟩,⟨rfl,rfl⟩,by unfold A3;simp;omega⟩,hr⟩];unfold Gj;rw [zAY (by simp),ek,zBe]
  ·rw [zAI hl,zAC,zAY hl,zAA hr,zF1];unfold Gj;rw [zAY ha,ek]
theorem gv (hF:EC q)(hv:DG q=true):Ev (fun n=>Sl n q level) (AS q level):=by
 obtain ⟨_,_,h⟩:=Mq (m:=HQ q level) (S:=Unit) (fun k _=>Gj (FT q level k) k) (fun _ _=>True) q.cons.length (fun k s hk _=>⟨(),trivial,BL.oneN (GE q) fun n hn=>rz hF hv hn hk⟩) q.cons.length 0 () (by omega) trivial;have h0:Gj (FT q level 0) 0= .l1 0:=rfl;simp only [h0] at h;refine h.ev (Ev.one fun n=>?_);have AK:decide ((q.cons.length:Int)<(q.cons.length:Int))=false:=zAI (by omega)
 show HQ q level (n+1) (Gj (AS q level) q.cons.length)=some (AS q level)
 by_cases ha:AS q level= []
 ·rw [ha]
  show Sk n (HQ q level n) q level (q.cons.length:Int)=_
  unfold Sk;rw [AK,zAC]
 ·have e0:Gj (AS q level) q.cons.length= .l2 (AS q level).length (q.cons.length:Int) (AS q level):=by unfold Gj;rw [zAY ha]
  rw [e0]
  show Sj n (HQ q level n) q level (AS q level).length (q.cons.length:Int) (AS q level)=_
  unfold Sj;rw [AK,zAC,zAA rfl]
end
structure QI (K:Nat)(ws:List Bool)(Q:List Int):Prop where
 len:ws.length=4096
 nd:Q.Nodup
 rng: ∀ i∈Q,0<=i/\ i<(K:Int)
 iff: ∀ i:Nat,i<4096 -> (ws.getD i false=true↔(i:Int)∈Q)
section
variable {K o n:Nat} {ws:List Bool} {Q l qu:List Int} {v:Int}
theorem QI.le (h:QI K ws Q):Q.length<=K:=UB K Q h.nd h.rng
theorem QI.push (h:QI K ws Q)(hK:K<=4096)(h0:0<=v)(h1:v<(K:Int))(hw:ws.getD v.toNat false=false):QI K (ws.set v.toNat true) (Q++[v]):=by
 have hv:v∉Q:=fun hm=>by
  have e:((v.toNat:Nat):Int)=v:=by omega
  have:=(h.iff v.toNat (by omega)).2 (by rw [e];exact hm);rw [hw] at this;cases this
 refine ⟨by rw [zCG];exact h.len,List.nodup_append.2 ⟨h.nd,by simp,fun a ha b hb=>by rintro rfl;simp at hb;subst hb;exact hv ha⟩,fun i hi=>?_,fun i hi=>?_⟩
 ·rcases zB3.1 hi with hi | hi
  ·exact h.rng i hi
  ·simp at hi;subst hi;exact ⟨h0,h1⟩
 ·rw [zB3,zBv,←h.iff i hi,u8,zB8,u8];have hl:v.toNat<ws.length:=by rw [h.len];omega
  by_cases e:v.toNat=i
  ·rw [zAA e,zAA hl];constructor
   ·intro _;exact .inr (by omega)
   ·intro _;rfl
  ·rw [zAY e];constructor
   ·exact .inl
   ·rintro (h | h)
    ·exact h
    ·omega
theorem QI.pop (h:QI K ws (v::Q))(hK:K<=4096):QI K (ws.set v.toNat false) Q:=by
 obtain ⟨hv,As⟩:=zGy.1 h.nd;have hr:=h.rng v (by simp);refine ⟨by rw [zCG];exact h.len,As,fun i hi=>h.rng i (by simp [hi]),fun i hi=>?_⟩;have hl:v.toNat<ws.length:=by rw [h.len];omega
 rw [u8,zB8]
 by_cases e:v.toNat=i
 ·rw [zAA e,zAA hl];constructor
  ·intro hx;cases hx
  ·intro hx;have:((i:Nat):Int)=v:=by omega
   rw [this] at hx;exact absurd hx hv
 ·rw [zAY e,←u8,h.iff i hi,zCC];constructor
  ·rintro (hx | hx)
   ·omega
   ·exact hx
  ·exact .inr
structure MQ (K:Nat)(ws:List Bool)(o n:Nat)(qu Q:List Int):Prop where
 sum:o+n=qu.length
 eq:qu.drop o=Q
 qi:QI K ws Q
theorem MQ.cnt (h:MQ K ws o n qu Q):n=Q.length:=by rw [←h.eq,zGm];have:=h.sum;omega
theorem zFP (hK:K<=4096)(hl: ∀ v∈l,0<=v/\ v<(K:Int))(Af:l.length<=LB)(h:MQ K ws o n qu Q):
 ∃ Bl o' n' DJ Q',Ev (fun m=>Ly m l ws o n qu) (Bl,o',n',DJ)/\ MQ K Bl o' n' DJ Q'/\ ∀ i,i∈Q'↔i∈Q∨i∈l:=by
 obtain ⟨⟨Bl,o',n',DJ,Q'⟩,⟨h1,h2⟩,h3⟩:=Mq (m:=Py l ws o n qu) (S:=List Bool×Nat×Nat×List Int×List Int) (fun j s=>.l1 (j:Int) s.1 s.2.1 s.2.2.1 s.2.2.2.1) (fun j s=>MQ K s.1 s.2.1 s.2.2.1 s.2.2.2.1 s.2.2.2.2/\ ∀ i,i∈s.2.2.2.2↔i∈Q∨i∈l.take j) l.length (fun j s hj hI=>by
  obtain ⟨Ca,o1,n1,KF,Q1⟩:=s;obtain ⟨hM,CS⟩:=hI;have hM:MQ K Ca o1 n1 KF Q1:=hM;have CS: ∀ i,i∈Q1↔i∈Q∨i∈l.take j:=CS;have AK:decide ((j:Int)<(l.length:Int))=true:=zAU (by omega);have hr:AH ((j:Int)+1):=Aw.2 ⟨by omega,by unfold LB at Af;omega⟩;have ej:((j+1:Nat):Int)=(j:Int)+1:=by omega
  have GS:l.getD j 0∈l:=by rw [u8,zAE hj];exact zB0 hj
  obtain ⟨Il,Bb⟩:=hl _ GS;have PE:l.take (j+1)=l.take j++[l.getD j 0]:=by rw [zFm hj];simp [hj]
  have hg:(0<=(j:Int)/\ (j:Int)<(l.length:Int))/\ (0<=l.getD ((j:Int)).toNat 0/\ l.getD ((j:Int)).toNat 0<((4096:Nat):Int))/\ 0+(l.getD ((j:Int)).toNat 0).toNat<Ca.length:=by
   rw [zAP,hM.qi.len];omega
  cases hw:Ca.getD (l.getD j 0).toNat false with
  | false=>
   have B2:=hM.qi.le;have hn:=hM.cnt;refine ⟨(Ca.set (l.getD j 0).toNat true,0,n1+1,Q1++[l.getD j 0],Q1++[l.getD j 0]),⟨⟨by simp;omega,rfl,hM.qi.push hK Il Bb hw⟩,fun i=>?_⟩,BL.one fun m=>?_⟩
   ·show i∈Q1++[l.getD j 0]↔_
    rw [PE,zB3,zB3,CS i];constructor
    ·rintro ((h | h) | h)
     ·exact .inl h
     ·exact .inr (.inl h)
     ·exact .inr (.inr h)
    ·rintro (h | h | h)
     ·exact .inl (.inl h)
     ·exact .inl (.inr h)
     ·exact .inr h
   ·show Pz m (Py l ws o n qu m) l ws o n qu (j:Int) Ca o1 n1 KF=_
    unfold Pz;rw [AK,zAK,zAA hg,zAP,zBy,hw,zCa,zAK,zAA ⟨hM.sum,by unfold A3;simp;omega,hr⟩,hM.eq,ej];rfl
  | true=>
   refine ⟨(Ca,o1,n1,KF,Q1),⟨hM,fun i=>?_⟩,BL.one fun m=>?_⟩
   ·show i∈Q1↔_
    have B8:l.getD j 0∈Q1:=by
     have e:(((l.getD j 0).toNat:Nat):Int)=l.getD j 0:=by omega
     have:=(hM.qi.iff (l.getD j 0).toNat (by omega)).1 hw;rw [e] at this;exact this
    rw [PE,zB3,CS i];constructor
    ·rintro (h | h)
     ·exact .inl h
     ·exact .inr (.inl h)
    ·rintro (h | h | h)
     ·exact .inl h
     ·exact .inr h
     ·rw [zBv] at h;subst h;exact (CS _).1 B8
   ·show Pz m (Py l ws o n qu m) l ws o n qu (j:Int) Ca o1 n1 KF=_
    unfold Pz;rw [AK,zAK,zAA hg,zAP,zBy,hw,zCX,zAC,zAA hr,ej]) l.length 0 (ws,o,n,qu,Q) (by omega) ⟨h,fun i=>by simp⟩
 refine ⟨Bl,o',n',DJ,Q',h3.ev (Ev.one fun m=>?_),h1,fun i=>by have:=h2 i;simpa using this⟩;have AK:decide ((l.length:Int)<(l.length:Int))=false:=zAI (by omega)
 show Pz m (Py l ws o n qu m) l ws o n qu (l.length:Int) Bl o' n' DJ=_
 unfold Pz;rw [AK,zAC]
def GF (j:Nat)(s:List Bool×List Int):SO:=if s.2= [] then .l1 (j:Int) else .l2 (j:Int) s.1 s.2.length s.2
theorem q8 (hK:K<=4096)(hl: ∀ v∈l,0<=v/\ v<(K:Int))(Af:l.length<=LB)(h:QI K ws []):
 ∃ Bl Q',Ev (fun m=>Nd m l ws) (Bl,0,Q'.length,Q',decide (Q'= []))/\ QI K Bl Q'/\ ∀ i,i∈Q'↔i∈l:=by
 obtain ⟨⟨Bl,Q'⟩,⟨h1,h2,h4⟩,h3⟩:=Mq (m:=I4 l ws) (S:=List Bool×List Int) (fun j s=>GF j s) (fun j s=>QI K s.1 s.2/\ (∀ i,i∈s.2↔i∈l.take j)/\ (s.2= [] -> s.1=ws)) l.length (fun j s hj hI=>by
  obtain ⟨Ca,Q1⟩:=s;obtain ⟨hM,CS,YC⟩:=hI;have hM:QI K Ca Q1:=hM;have CS: ∀ i,i∈Q1↔i∈l.take j:=CS;have YC:Q1= [] -> Ca=ws:=YC;have AK:decide ((j:Int)<(l.length:Int))=true:=zAU (by omega);have hr:AH ((j:Int)+1):=Aw.2 ⟨by omega,by unfold LB at Af;omega⟩;have ej:((j+1:Nat):Int)=(j:Int)+1:=by omega
  have GS:l.getD j 0∈l:=by rw [u8,zAE hj];exact zB0 hj
  obtain ⟨Il,Bb⟩:=hl _ GS;have PE:l.take (j+1)=l.take j++[l.getD j 0]:=by rw [zFm hj];simp [hj]
  have hg:(0<=(j:Int)/\ (j:Int)<(l.length:Int))/\ (0<=l.getD ((j:Int)).toNat 0/\ l.getD ((j:Int)).toNat 0<((4096:Nat):Int))/\ 0+(l.getD ((j:Int)).toNat 0).toNat<Ca.length:=by
   rw [zAP,hM.len];omega
  have B2:=hM.le;cases hw:Ca.getD (l.getD j 0).toNat false with
  | false=>
   refine ⟨(Ca.set (l.getD j 0).toNat true,Q1++[l.getD j 0]),⟨hM.push hK Il Bb hw,fun i=>?_,fun e=>by simp at e⟩,BL.one fun m=>?_⟩
   ·show i∈Q1++[l.getD j 0]↔_
    rw [PE,zB3,zB3,CS i]
   ·have e2:GF (j+1) (Ca.set (l.getD j 0).toNat true,Q1++[l.getD j 0])= .l2 ((j:Int)+1) (Ca.set (l.getD j 0).toNat true) (Q1.length+1) (Q1++[l.getD j 0]):=by
     unfold GF;rw [zAY (by simp),ej,zBe];rfl
    rw [e2]
    by_cases hq:Q1= []
    ·have e1:GF j (Ca,Q1)= .l1 (j:Int):=by unfold GF;rw [zAA hq]
     rw [e1];have:=YC hq;subst this;subst hq
     show V3 m (I4 l Ca m) l Ca (j:Int)=_
     unfold V3;rw [AK,zAK,zAA hg,zAP,zBy,hw,zCa,zAK,zAA ⟨⟨⟨rfl,rfl⟩,Nat.one_pos,by unfold A3;simp⟩,hr⟩];rfl
    ·have e1:GF j (Ca,Q1)= .l2 (j:Int) Ca Q1.length Q1:=by unfold GF;rw [zAY hq]
     rw [e1]
     show Px m (I4 l ws m) l ws (j:Int) Ca Q1.length Q1=_
     unfold Px;rw [AK,zAK,zAA hg,zAP,zBy,hw,zCa,zAK,zAA ⟨by omega,by unfold A3;simp;omega,hr⟩];rfl
  | true=>
   have B8:l.getD j 0∈Q1:=by
    have e:(((l.getD j 0).toNat:Nat):Int)=l.getD j 0:=by omega
    have:=(hM.iff (l.getD j 0).toNat (by omega)).1 hw;rw [e] at this;exact this
   have hq:Q1≠[]:=fun e=>by rw [e] at B8;cases B8
   refine ⟨(Ca,Q1),⟨hM,fun i=>?_,YC⟩,BL.one fun m=>?_⟩
   ·show i∈Q1↔_
    rw [PE,zB3,←CS i];constructor
    ·exact .inl
    ·rintro (h | h)
     ·exact h
     ·rw [zBv] at h;subst h;exact B8
   ·have e1:GF j (Ca,Q1)= .l2 (j:Int) Ca Q1.length Q1:=by unfold GF;rw [zAY hq]
    have e2:GF (j+1) (Ca,Q1)= .l2 ((j:Int)+1) Ca Q1.length Q1:=by unfold GF;rw [zAY hq,ej]
    rw [e1,e2]
    show Px m (I4 l ws m) l ws (j:Int) Ca Q1.length Q1=_
    unfold Px;rw [AK,zAK,zAA hg,zAP,zBy,hw,zCX,zAC,zAA hr]) l.length 0 (ws,[]) (by omega) ⟨h,fun i=>by simp,fun _=>rfl⟩
 have h2: ∀ i,i∈Q'↔i∈l:=fun i=>by have:=h2 i;simpa using this
 have h4:Q'= [] -> Bl=ws:=h4;refine ⟨Bl,Q',?_,h1,h2⟩;have e0:I4 l ws=I4 l ws:=rfl;have AK:decide ((l.length:Int)<(l.length:Int))=false:=zAI (by omega);refine BL.ev (a:=GF 0 (ws,[])) h3 (Ev.one fun m=>?_)
 by_cases hq:Q'= []
 ·have e1:GF l.length (Bl,Q')= .l1 (l.length:Int):=by unfold GF;rw [zAA hq]
  have:=h4 hq;subst this;rw [e1,hq]
  show V3 m (I4 l Bl m) l Bl (l.length:Int)=_
  unfold V3;rw [AK,zAC];rfl
 ·have e1:GF l.length (Bl,Q')= .l2 (l.length:Int) Bl Q'.length Q':=by unfold GF;rw [zAY hq]
  rw [e1,zAI hq]
  show Px m (I4 l ws m) l ws (l.length:Int) Bl Q'.length Q'=_
  unfold Px;rw [AK,zAC]
end
def Kq (q:AA)(level:Int)(p g:List Int):Prop:=(BZ p=true/\ g=List.replicate p.length 0)∨(BZ p=false/\ Fl q (Up q level) p g/\ P9 q (Up q level) g)
structure OF (q:AA)(level:Int)(f:Int -> List Int)(T:Nat):Prop where
 snd: ∀ c i,i∈f c -> Up q level i
 len: ∀ c,(f c).length<=T
section
variable {q:AA} {level:Int} {p cells:List Int} {f:Int -> List Int}
theorem WH {a:Nat}(ha:a<(AS q level).length):Up q level ((AS q level).getD a 0):=by
 refine KT.1 ?_;rw [u8,zAE ha];exact zB0 ha
theorem zEC (hv:DG q=true){i:Int}(h:Up q level i):(∀ x∈(con q i).cells,0<=x/\ x<q.cells)/\ (con q i).cells.length<=256:=by
 have hm:con q i∈q.cons:=by
  have h0:=h.1;have h1:=h.2.1;unfold con;rw [u8,zAE (by omega)];exact zB0 _
 have hf:=(EF hv).2.2.2.2.2 _ hm;unfold Fg at hf;simp only [zAO] at hf;obtain ⟨h1,h2,_⟩:=p7.1 hf.1.1.1.1.1;have h3:=(EF hv).1;refine ⟨h1,?_⟩;have:=UB q.cells.toNat _ h2 fun x hx=>by have:=h1 x hx;omega
 omega
theorem xW (hv:DG q=true){a:Nat}(ha:a<(AS q level).length){T:Nat}(hT:T<=2000000)(hO:OF q level f T):
 ∃ f',BL (Bv q p cells level) (.l2 (AS q level) ((AS q level).getD a 0) (AS q level) ((AS q level).length:Int) (a:Int) (con q ((AS q level).getD a 0)).cells ((con q ((AS q level).getD a 0)).cells.length:Int) 0 f) (.l1 (AS q level) (AS q level) ((AS q level).length:Int) ((a+1:Nat):Int) f')/\
  OF q level f' (T+256)/\ (∀ c i,i∈f c -> i∈f' c)/\ ∀ c∈(con q ((AS q level).getD a 0)).cells,(AS q level).getD a 0∈f' c:=by
 have hU:=WH ha;obtain ⟨YX,It⟩:=zEC hv hU;have Ue:(AS q level).length<=4096:=zAa Sh (EF hv).2.2.2.2.1
 generalize (AS q level).getD a 0=i at hU YX It ⊢
 generalize (con q i).cells=cs at YX It ⊢
 obtain ⟨f',⟨h1,h2,h3⟩,h4⟩:=Mq (m:=Bv q p cells level) (S:=Int -> List Int) (fun b f=>.l2 (AS q level) i (AS q level) ((AS q level).length:Int) (a:Int) cs (cs.length:Int) (b:Int) f) (fun b g=>OF q level g (T+b)/\ (∀ c i,i∈f c -> i∈g c)/\ ∀ c∈cs.take b,i∈g c) cs.length (fun b g hb hI=>by
  obtain ⟨hg,hs,hd⟩:=hI;have AK:decide ((b:Int)<(cs.length:Int))=true:=zAU (by omega);have hr:AH ((b:Int)+1):=Aw.2 ⟨by omega,by omega⟩;have eb:((b+1:Nat):Int)=(b:Int)+1:=by omega
  have PE:cs.take (b+1)=cs.take b++[cs.getD b 0]:=by rw [zFm hb];simp [hb]
  refine ⟨Hr g (cs.getD b 0) (g (cs.getD b 0)++[i]),⟨⟨fun c j hj=>?_,fun c=>?_⟩,fun c j hj=>?_,fun c hc=>?_⟩,BL.one fun m=>?_⟩
  ·unfold Hr at hj;split at hj
   ·rcases zB3.1 hj with hj | hj
    ·exact hg.snd _ _ hj
    ·rw [zBv] at hj;subst hj;exact hU
   ·exact hg.snd _ _ hj
  ·unfold Hr;split
   ·rw [zBe,zB7];have:=hg.len (cs.getD b 0);omega
   ·have:=hg.len c;omega
  ·unfold Hr;split
   ·rename_i e;subst e;exact zCT _ (hs _ _ hj)
   ·exact hs _ _ hj
  ·rw [PE,zB3,zBv] at hc;unfold Hr;split
   ·exact zCh _ (by simp)
   ·rename_i AR;rcases hc with hc | hc
    ·exact hd c hc
    ·exact absurd hc AR
  ·show Tn m (Bv q p cells level m) q p cells level (AS q level) i (AS q level) ((AS q level).length:Int) (a:Int) cs (cs.length:Int) (b:Int) g=_
   unfold Tn;rw [AK,zAK,zAP,zAA ⟨by omega,by have:=hg.len (cs.getD b 0);unfold A3;rw [zB7];omega,hr⟩,eb]) cs.length 0 f (by omega) ⟨hO,fun c i h=>h,fun c hc=>by simp at hc⟩
 refine ⟨f',h4.trans (BL.one fun m=>?_),⟨h1.snd,fun c=>zAa (h1.len c) (by omega)⟩,h2,fun c hc=>h3 c (by simpa using hc)⟩;have AK:decide ((cs.length:Int)<(cs.length:Int))=false:=zAI (by omega);have hr:AH ((a:Int)+1):=Aw.2 ⟨by omega,by omega⟩
 show Tn m (Bv q p cells level m) q p cells level (AS q level) i (AS q level) ((AS q level).length:Int) (a:Int) cs (cs.length:Int) (cs.length:Int) f'=_
 unfold Tn;rw [AK,zAC,zAA hr,show ((a+1:Nat):Int)=(a:Int)+1 by omega]
theorem xX (hv:DG q=true):
 ∃ f',BL (Bv q p cells level) (.l1 (AS q level) (AS q level) ((AS q level).length:Int) 0 (fun _=>[])) (.l3 (AS q level) 0 f' (List.replicate 4096 false))/\ OF q level f' 2000000/\ ∀ i,Up q level i -> ∀ c∈(con q i).cells,i∈f' c:=by
 have Ue:(AS q level).length<=4096:=zAa Sh (EF hv).2.2.2.2.1
 obtain ⟨f',⟨h1,h2⟩,h3⟩:=Mq (m:=Bv q p cells level) (S:=Int -> List Int) (fun a f=>.l1 (AS q level) (AS q level) ((AS q level).length:Int) (a:Int) f) (fun a g=>OF q level g (256*a)/\ ∀ a',a'<a -> ∀ c∈(con q ((AS q level).getD a' 0)).cells,(AS q level).getD a' 0∈g c) (AS q level).length (fun a g ha hI=>by
  obtain ⟨hg,hd⟩:=hI;obtain ⟨g',e1,e2,e3,e4⟩:=xW (p:=p) (cells:=cells) hv ha (by omega) hg;have hU:=WH ha;have AK:decide ((a:Int)<((AS q level).length:Int))=true:=zAU (by omega);refine ⟨g',⟨⟨e2.snd,fun c=>zAa (e2.len c) (by omega)⟩,fun a' Pb c hc=>?_⟩,BL.trans (BL.one fun m=>?_) e1⟩
  ·by_cases e:a'=a
   ·subst e;exact e4 c hc
   ·exact e3 _ _ (hd a' (by omega) c hc)
  ·show To m (Bv q p cells level m) q p cells level (AS q level) (AS q level) ((AS q level).length:Int) (a:Int) g=_
   unfold To;rw [AK,zAK,zAP,zAA ⟨by omega,hU.1,hU.2.1⟩];rfl) (AS q level).length 0 (fun _=>[]) (by omega) ⟨⟨fun c i h=>(by cases h),fun c=>zBl 0⟩,fun a' Pb=>absurd Pb (zBk _)⟩
 refine ⟨f',h3.trans (BL.one fun m=>?_),⟨h1.snd,fun c=>zAa (h1.len c) (by omega)⟩,fun i hi c hc=>?_⟩
 ·have AK:decide (((AS q level).length:Int)<((AS q level).length:Int))=false:=zAI (by omega)
  show To m (Bv q p cells level m) q p cells level (AS q level) (AS q level) ((AS q level).length:Int) ((AS q level).length:Int) f'=_
  unfold To;rw [AK,zAC]
 ·obtain ⟨a,ha,e⟩:=zEk (KT.2 hi);have e':(AS q level).getD a 0=i:=by rw [u8,zAE ha];exact e
  have:=h2 a ha c (by rw [e'];exact hc);rw [e'] at this;exact this
structure WQ (q:AA)(level:Int)(ws:List Bool)(o n:Nat)(qu Q:List Int):Prop where
 mq:MQ q.cons.length ws o n qu Q
 up: ∀ i∈Q,Up q level i
def jF (q:AA)(level:Int)(f:Int -> List Int)(j:Nat)(s:List Bool×Option (Nat×Nat×List Int)):JM:=match s.2 with
 | none=>.l3 (AS q level) (j:Int) f s.1
 | some (o,n,qu)=>.l4 (AS q level) (j:Int) f s.1 o n qu
def IC (q:AA)(level:Int)(s:List Bool×Option (Nat×Nat×List Int)):Prop:=match s.2 with
 | none=>QI q.cons.length s.1 []
 | some (o,n,qu)=>∃ Q,WQ q level s.1 o n qu Q
theorem Zo {l:List Int}(h: ∀ i∈l,Up q level i): ∀ i∈l,0<=i/\ i<(q.cons.length:Int):=fun i hi=>⟨(h i hi).1,(h i hi).2.1⟩
theorem WQ.add (hK:q.cons.length<=4096){ws:List Bool}{o n:Nat}{qu Q l:List Int}(h:WQ q level ws o n qu Q)(hl: ∀ i∈l,Up q level i)(Af:l.length<=LB):
 ∃ Bl o' n' DJ Q',Ev (fun m=>Ly m l ws o n qu) (Bl,o',n',DJ)/\ WQ q level Bl o' n' DJ Q'/\ ∀ i,i∈Q'↔i∈Q∨i∈l:=by
 obtain ⟨Bl,o',n',DJ,Q',h1,h2,h3⟩:=zFP hK (Zo hl) Af h.mq;exact ⟨Bl,o',n',DJ,Q',h1,⟨h2,fun i hi=>((h3 i).1 hi).elim (h.up i) (hl i)⟩,h3⟩
theorem zET (hv:DG q=true)(BF:cells.length<=LB)(hO:OF q level f 2000000):
 ∃ s',IC q level s'/\ BL (Bv q p cells level) (.l3 (AS q level) 0 f (List.replicate 4096 false)) (jF q level f cells.length s'):=by
 have hK:=(EF hv).2.2.2.2.1
 obtain ⟨s',h1,h2⟩:=Mq (m:=Bv q p cells level) (S:=List Bool×Option (Nat×Nat×List Int)) (jF q level f) (fun _ s=>IC q level s) cells.length (fun j s hj hI=>by
  have AK:decide ((j:Int)<(cells.length:Int))=true:=zAU (by omega);have hr:AH ((j:Int)+1):=Aw.2 ⟨by omega,by unfold LB at BF;omega⟩;have ej:((j+1:Nat):Int)=(j:Int)+1:=by omega
  have da:(f (cells.getD j 0)).length<=LB:=zAa (hO.len _) (by decide);have Io: ∀ i∈f (cells.getD j 0),Up q level i:=fun i hi=>hO.snd _ i hi
  obtain ⟨ws,st⟩:=s;cases st with
  | none=>
   have hI:QI q.cons.length ws []:=hI;obtain ⟨Bl,Q',⟨N,e1⟩,e2,e3⟩:=q8 hK (Zo Io) da hI;have e1: ∀ m,N<=m -> Nd m (f (cells.getD j 0)) ws=some (Bl,0,Q'.length,Q',decide (Q'= [])):=e1
   by_cases hQ:Q'= []
   ·refine ⟨(Bl,none),by rw [hQ] at e2;exact e2,BL.oneN N fun m hm=>?_⟩
    show LA m (Bv q p cells level m) q p cells level (AS q level) (j:Int) f ws=Bv q p cells level m (.l3 (AS q level) ((j+1:Nat):Int) f Bl)
    unfold LA;rw [AK,zAK,zAA (by omega),zAP,e1 m hm,zAB,zAU hQ]
    show (if AH ((j:Int)+1) then _ else _)=_
    rw [zAA hr,ej]
   ·refine ⟨(Bl,some (0,Q'.length,Q')),⟨Q',⟨⟨by omega,rfl,e2⟩,fun i hi=>Io i ((e3 i).1 hi)⟩⟩,BL.oneN N fun m hm=>?_⟩
    show LA m (Bv q p cells level m) q p cells level (AS q level) (j:Int) f ws=Bv q p cells level m (.l4 (AS q level) ((j+1:Nat):Int) f Bl 0 Q'.length Q')
    unfold LA;rw [AK,zAK,zAA (by omega),zAP,e1 m hm,zAB,zAI hQ]
    show (if AH ((j:Int)+1) then _ else _)=_
    rw [zAA hr,ej]
  | some s1=>
   obtain ⟨o,n,qu⟩:=s1;obtain ⟨Q,hW⟩:=(hI: ∃ Q,WQ q level ws o n qu Q);have hW:WQ q level ws o n qu Q:=hW;obtain ⟨Bl,o',n',DJ,Q',⟨N,e1⟩,e2,_⟩:=hW.add hK Io da;have e1: ∀ m,N<=m -> Ly m (f (cells.getD j 0)) ws o n qu=some (Bl,o',n',DJ):=e1;refine ⟨(Bl,some (o',n',DJ)),⟨Q',e2⟩,BL.oneN N fun m hm=>?_⟩
   show Tm m (Bv q p cells level m) q p cells level (AS q level) (j:Int) f ws o n qu=Bv q p cells level m (.l4 (AS q level) ((j+1:Nat):Int) f Bl o' n' DJ)
   unfold Tm;rw [AK,zAK,zAA (by omega),zAP,e1 m hm,zAB]
   show (if AH ((j:Int)+1) then _ else _)=_
   rw [zAA hr,ej]) cells.length 0 (List.replicate 4096 false,none) (by omega) (by
  refine ⟨zB1,List.nodup_nil,fun i hi=>(by cases hi),fun i hi=>⟨fun h=>?_,fun h=>(by cases h)⟩⟩;rw [u8,zCe,zAA hi] at h;cases h)
 exact ⟨s',h1,h2⟩
theorem zEj (hv:DG q=true)(BF:cells.length<=LB):
 ∃ f,OF q level f 2000000/\ (∀ i,Up q level i -> ∀ c∈(con q i).cells,i∈f c)/\ ((BL (Bv q p cells level) (.l1 (AS q level) (AS q level) ((AS q level).length:Int) 0 (fun _=>[])) (.l5 f (List.replicate 4096 false))∨
  (∃ ws,BL (Bv q p cells level) (.l1 (AS q level) (AS q level) ((AS q level).length:Int) 0 (fun _=>[])) (.l5 f ws)))/\ (∀ i,¬ Up q level i)∨
  ∃ ws o n qu Q,WQ q level ws o n qu Q/\ (∀ i,Up q level i -> i∈Q)/\ BL (Bv q p cells level) (.l1 (AS q level) (AS q level) ((AS q level).length:Int) 0 (fun _=>[])) (.l6 p f ws o n qu)):=by
 have hK:=(EF hv).2.2.2.2.1;obtain ⟨f,g1,g2,g3⟩:=xX (q:=q) (level:=level) (p:=p) (cells:=cells) hv;obtain ⟨⟨ws,st⟩,h1,h2⟩:=zET (p:=p) hv BF g2;have h2:=g1.trans h2;have Ue:(AS q level).length<=LB:=zAa Sh (zAa hK (by decide));have AK:decide ((cells.length:Int)<(cells.length:Int))=false:=zAI (by omega);refine ⟨f,g2,g3,?_⟩;cases st with
 | none=>
  have h1:QI q.cons.length ws []:=h1;obtain ⟨Bl,Q',⟨N,e1⟩,e2,e3⟩:=q8 hK (Zo fun i hi=>KT.1 hi) Ue h1;have e1: ∀ m,N<=m -> Nd m (AS q level) ws=some (Bl,0,Q'.length,Q',decide (Q'= [])):=e1
  by_cases hQ:Q'= []
  ·refine .inl ⟨.inr ⟨Bl,h2.trans (BL.oneN N fun m hm=>?_)⟩,fun i hi=>by have:=(e3 i).2 (KT.2 hi);rw [hQ] at this;cases this⟩
   show LA m (Bv q p cells level m) q p cells level (AS q level) (cells.length:Int) f ws=_
   unfold LA;rw [AK,zAC,e1 m hm,zAB,zAU hQ];rfl
  ·refine .inr ⟨Bl,0,Q'.length,Q',Q',⟨⟨by omega,rfl,e2⟩,fun i hi=>KT.1 ((e3 i).1 hi)⟩,fun i hi=>(e3 i).2 (KT.2 hi),h2.trans (BL.oneN N fun m hm=>?_)⟩
   show LA m (Bv q p cells level m) q p cells level (AS q level) (cells.length:Int) f ws=_
   unfold LA;rw [AK,zAC,e1 m hm,zAB,zAI hQ];rfl
 | some s1=>
  obtain ⟨o,n,qu⟩:=s1;obtain ⟨Q,hW⟩:=(h1: ∃ Q,WQ q level ws o n qu Q);have hW:WQ q level ws o n qu Q:=hW;obtain ⟨Bl,o',n',DJ,Q',⟨N,e1⟩,e2,e3⟩:=hW.add hK (fun i hi=>KT.1 hi) Ue;have e1: ∀ m,N<=m -> Ly m (AS q level) ws o n qu=some (Bl,o',n',DJ):=e1;refine .inr ⟨Bl,o',n',DJ,Q',e2,fun i hi=>(e3 i).2 (.inr (KT.2 hi)),h2.trans (BL.oneN N fun m hm=>?_)⟩
  show Tm m (Bv q p cells level m) q p cells level (AS q level) (cells.length:Int) f ws o n qu=_
  unfold Tm;rw [AK,zAC,e1 m hm,zAB]
end
abbrev zGw:=@List.cons.inj
section
variable {q:AA} {level:Int} {pos p x cells:List Int} {f:Int -> List Int}
theorem zEQ (hv:DG q=true)(hO:OF q level f 2000000)(hl:x.length=p.length)(hp:p.length<=256){ws:List Bool}{o n:Nat}{qu Q:List Int}(h:WQ q level ws o n qu Q):
 ∃ Bl o' n' DJ Q',WQ q level Bl o' n' DJ Q'/\ (∀ i∈Q,i∈Q')/\ (∀ c,c<p.length -> x.getD c 0≠p.getD c 0 -> ∀ i∈f (c:Int),i∈Q')/\ ((∀ c,c<p.length -> x.getD c 0=p.getD c 0) -> Q'=Q)/\
  BL (Bv q pos cells level) (.l7 p x (x.length:Int) 0 f ws o n qu) (.l6 x f Bl o' n' DJ):=by
 have hK:=(EF hv).2.2.2.2.1
 obtain ⟨⟨Bl,o',n',DJ,Q'⟩,⟨h1,h2,h3,h4⟩,h5⟩:=Mq (m:=Bv q pos cells level) (S:=List Bool×Nat×Nat×List Int×List Int) (fun c s=>.l7 p x (x.length:Int) (c:Int) f s.1 s.2.1 s.2.2.1 s.2.2.2.1)
  (fun c s=>WQ q level s.1 s.2.1 s.2.2.1 s.2.2.2.1 s.2.2.2.2/\ (∀ i∈Q,i∈s.2.2.2.2)/\ (∀ c',c'<c -> x.getD c' 0≠p.getD c' 0 -> ∀ i∈f (c':Int),i∈s.2.2.2.2)/\ ((∀ c',c'<c -> x.getD c' 0=p.getD c' 0) -> s.2.2.2.2=Q)) p.length (fun c s hc hI=>by
  obtain ⟨Ca,o1,n1,KF,Q1⟩:=s;obtain ⟨hW,hs,hd,he⟩:=hI;have hW:WQ q level Ca o1 n1 KF Q1:=hW;have hs: ∀ i∈Q,i∈Q1:=hs;have hd: ∀ c',c'<c -> x.getD c' 0≠p.getD c' 0 -> ∀ i∈f (c':Int),i∈Q1:=hd;have he:(∀ c',c'<c -> x.getD c' 0=p.getD c' 0) -> Q1=Q:=he;have AK:decide ((c:Int)<(x.length:Int))=true:=zAU (by omega);have hr:AH ((c:Int)+1):=Aw.2 ⟨by omega,by omega⟩;have ec:((c+1:Nat):Int)=(c:Int)+1:=by omega
  by_cases hx:x.getD c 0=p.getD c 0
  ·refine ⟨(Ca,o1,n1,KF,Q1),⟨hW,hs,fun c' H4 AR=>?_,fun h=>he fun c' H4=>h c' (by omega)⟩,BL.one fun m=>?_⟩
   ·by_cases e:c'=c
    ·subst e;exact absurd hx AR
    ·exact hd c' (by omega) AR
   ·show OQ m (Bv q pos cells level m) q pos cells level p x (x.length:Int) (c:Int) f Ca o1 n1 KF=_
    unfold OQ;have hb:(x.getD c 0 != p.getD c 0)=false:=by rw [hx];simp
    rw [AK,zAK,zAA ⟨by omega,by omega⟩,zAP,hb,zAC,zAA hr,ec]
  ·have Io: ∀ i∈f (c:Int),Up q level i:=fun i hi=>hO.snd _ i hi
   obtain ⟨Bl,o',n',DJ,Q',⟨N,e1⟩,e2,e3⟩:=hW.add hK Io (zAa (hO.len _) (by decide));have e1: ∀ m,N<=m -> Ly m (f (c:Int)) Ca o1 n1 KF=some (Bl,o',n',DJ):=e1;refine ⟨(Bl,o',n',DJ,Q'),⟨e2,fun i hi=>(e3 i).2 (.inl (hs i hi)),fun c' H4 AR i hi=>?_,fun h=>absurd (h c (by omega)) hx⟩,BL.oneN N fun m hm=>?_⟩
   ·by_cases e:c'=c
    ·subst e;exact (e3 i).2 (.inr hi)
    ·exact (e3 i).2 (.inl (hd c' (by omega) AR i hi))
   ·show OQ m (Bv q pos cells level m) q pos cells level p x (x.length:Int) (c:Int) f Ca o1 n1 KF=Bv q pos cells level m (.l7 p x (x.length:Int) ((c+1:Nat):Int) f Bl o' n' DJ)
    unfold OQ;have hb:(x.getD c 0 != p.getD c 0)=true:=by simpa using hx
    rw [AK,zAK,zAA ⟨by omega,by omega⟩,zAP,hb,zAK,e1 m hm,zAB]
    show (if AH ((c:Int)+1) then _ else _)=_
    rw [zAA hr,ec]) p.length 0 (ws,o,n,qu,Q) (by omega) ⟨h,fun i hi=>hi,fun c' H4=>absurd H4 (zBk _),fun _=>rfl⟩
 refine ⟨Bl,o',n',DJ,Q',h1,h2,h3,h4,h5.trans (BL.one fun m=>?_)⟩;have AK:decide ((p.length:Int)<(x.length:Int))=false:=zAI (by omega)
 show OQ m (Bv q pos cells level m) q pos cells level p x (x.length:Int) (p.length:Int) f Bl o' n' DJ=_
 unfold OQ;rw [AK,zAC]
structure gE (q:AA)(level:Int)(p0 p:List Int)(Q:List Int):Prop where
 pos:BK q p
 down:Fl q (Up q level) p0 p
 zero:BZ p=true -> p=List.replicate p.length 0
 fix: ∀ i,Up q level i -> i∉Q -> PR q (con q i) p p
theorem PR.other {i:Int}(h:PR q (con q i) p x)(hd:BZ x=false)(C:Bt q i p){j:Nat}(hj: ∀ k,k<(con q i).cells.length -> ((con q i).cells.getD k 0).toNat≠j):x.getD j 0=p.getD j 0:=by
 have hA:Kr q (con q i) p:=Classical.byContradiction fun hA=>by
  have h0:=C.len256.1;have:=HM.1 hd 0 (by rw [h.len];exact h0);rw [h.dead hA,QB] at this;exact this rfl
 by_cases Ur:j<p.length
 ·refine MH (h.live hA j Ur).1 ((C.sm j Ur).in64 (by have:=C.work.k;omega)) fun s _=>?_
  rw [zFk,(h.live hA j Ur).2];exact ⟨fun hx=>hx.1,fun hx=>⟨hx,fun ⟨a,ha,e,_⟩=>hj a ha e⟩⟩
 ·rw [u8,u8,zCU (by rw [h.len];omega),zCU (by omega)]
theorem yc {a b:List Int}(hl:a.length=b.length)(h: ∀ c,c<b.length -> a.getD c 0=b.getD c 0):a=b:=by
 refine zGU hl fun j h1 h2=>?_
 have:=h j h2;simpa [h1,h2] using this
theorem zCQ (hU: ∀ i,Up q level i -> ∀ c∈(con q i).cells,i∈f c){v:Int}{Q1 Q':List Int}(hv:Up q level v)(h:gE q level pos p (v::Q1))(hd:BZ p=false)(hx:PR q (con q v) p x)(hs: ∀ i∈Q1,i∈Q')(hc: ∀ c,c<p.length -> x.getD c 0≠p.getD c 0 -> ∀ i∈f (c:Int),i∈Q'):gE q level pos x Q':=by
 have M2:BK q x:=h.pos.pr hv.1 hv.2.1 hx;have hl:x.length=p.length:=hx.len;refine ⟨M2,h.down.trans (Fl.one hv hx),fun PW=>by rw [hl];exact hx.zero PW,fun i hi hn=>?_⟩
 by_cases O8:x=p
 ·subst O8
  by_cases e:i=v
  ·subst e;exact hx
  ·refine h.fix i hi fun hm=>?_
   rcases zCC.1 hm with hm | hm
   ·exact e hm
   ·exact hn (hs i hm)
 ·cases PW:BZ x with
  | true=>
   have:=hx.zero PW;rw [this];exact k8 h.pos.len256.1
  | false=>
   have Ci:=h.pos.ctx hi.1 hi.2.1
   have own: ∀ k,k<(con q i).cells.length -> x.getD ((con q i).cells.getD k 0).toNat 0=p.getD ((con q i).cells.getD k 0).toNat 0:=fun k hk=>by
    refine Classical.byContradiction fun AR=>?_
    have hW:=Ci.work.cells k hk;have hm:(con q i).cells.getD k 0∈(con q i).cells:=by rw [u8,zAE hk];exact zB0 hk
    have e:((((con q i).cells.getD k 0).toNat:Nat):Int)=(con q i).cells.getD k 0:=by omega
    refine hn (hc ((con q i).cells.getD k 0).toNat (by omega) AR i ?_);rw [e];exact hU i hi _ hm
   have AR:i≠v:=by
    rintro rfl;refine O8 (yc hl fun c BF=>?_)
    by_cases M5: ∃ k,k<(con q i).cells.length/\ ((con q i).cells.getD k 0).toNat=c
    ·obtain ⟨k,hk,rfl⟩:=M5;exact own k hk
    ·exact hx.other PW Ci fun k hk e=>M5 ⟨k,hk,e⟩
   have hp:PR q (con q i) p p:=h.fix i hi fun hm=>by
    rcases zCC.1 hm with hm | hm
    ·exact AR hm
    ·exact hn (hs i hm)
   exact yX Ci (M2.ctx hi.1 hi.2.1) own hd PW hp
theorem yM (hO:OF q level f 2000000)(hU: ∀ i,Up q level i -> ∀ c∈(con q i).cells,i∈f c): ∀ (M:Nat) {p:List Int} {ws:List Bool} {o n:Nat} {qu Q:List Int},wt p*(q.cons.length+1)+n<=M -> WQ q level ws o n qu Q -> gE q level pos p Q ->
 ∃ g,Ev (fun m=>Bv q pos cells level m (.l6 p f ws o n qu)) g/\ Fl q (Up q level) pos g/\ P9 q (Up q level) g:=by
 intro M
 induction M with
 | zero=>
  intro p ws o n qu Q hM hW h;have hn:n=0:=by omega
  subst hn;have hQ:Q= []:=zDe hW.mq.cnt.symm;subst hQ;exact ⟨p,Ev.one fun m=>rfl,h.down,fun i hi=>h.fix i hi (by simp)⟩
 | succ M ih=>
  intro p ws o n qu Q hM hW h;have hv:=h.pos.valid;have hK:=(EF hv).2.2.2.2.1;have Ez:=h.pos.len256.2
  by_cases hn:n=0
  ·subst hn;have hQ:Q= []:=zDe hW.mq.cnt.symm;subst hQ;exact ⟨p,Ev.one fun m=>rfl,h.down,fun i hi=>h.fix i hi (by simp)⟩
  have Fw:(n==0)=false:=by simpa using hn
  have nr:decide ((n:Int)>0)=true:=zAU (by omega);have HK: ∀ m,300<=m -> GP m p=some (BZ p):=fun m hm=>Mt (zAa Ez (by decide)) (by omega)
  cases hd:BZ p with
  | true=>
   have hz:=h.zero hd;refine ⟨p,Ev.oneN 300 fun m hm=>?_,h.down,?_⟩
   ·show Tl m (Bv q pos cells level m) q pos cells level p f ws o n qu=some p
    unfold Tl;rw [Fw,zAC,nr,zAK,HK m hm,zAB,hd];rfl
   ·rw [hz];exact oz h.pos.len256.1
  | false=>
   cases hQ:Q with
   | nil=>exact absurd (by rw [hW.mq.cnt,hQ];rfl) hn
   | cons v Q1=>
    subst hQ;have Bb:Up q level v:=hW.up v (by simp);obtain ⟨x,⟨N,RN⟩,hx⟩:=kz (h.pos.ctx Bb.1 Bb.2.1);have RN: ∀ m,N<=m -> OR m q v p=some (x,0):=RN;have hsum:=hW.mq.sum;have YS:=hW.mq.eq;have GU:o<qu.length:=by omega
    have zB2:qu.getD (o+0) 0=v:=by
     rw [zF6,u8,zAE GU];rw [zBw GU] at YS;exact (zGw YS).1
    have Jb:WQ q level (ws.set v.toNat false) (o+1) (n-1) qu Q1:=by
     refine ⟨⟨by omega,?_,hW.mq.qi.pop hK⟩,fun i hi=>hW.up i (by simp [hi])⟩;rw [zBw GU] at YS;exact (zGw YS).2
    obtain ⟨Bl,o',n',DJ,Q',e1,e2,e3,e4,e5⟩:=zEQ (pos:=pos) (cells:=cells) hv hO hx.len Ez Jb;have hH:=zCQ hU Bb h hd hx e2 e3
    have step:BL (Bv q pos cells level) (.l6 p f ws o n qu) (.l7 p x (x.length:Int) 0 f (ws.set v.toNat false) (o+1) (n-1) qu):=BL.oneN (max N 300) fun m hm=>by
     show Tl m (Bv q pos cells level m) q pos cells level p f ws o n qu=_
     unfold Tl;rw [Fw,zAC,nr,zAK,HK m (by omega),zAB,hd,zCa,zAK,zB2,zAA ⟨by omega,by omega,by omega,⟨Bb.1,by have:=Bb.2.1;omega⟩,by rw [hW.mq.qi.len];have:=Bb.1;have:=Bb.2.1;omega⟩,RN m (by omega),zAB,zBy];rfl
    have AK:wt x*(q.cons.length+1)+n'<=M:=by
     have PI:=e1.mq.qi.le;have Kb:=e1.mq.cnt
     by_cases O8:x=p
     ·have:Q'=Q1:=e4 fun c _=>by rw [O8]
      rw [O8];have h2:=Jb.mq.cnt;rw [this] at Kb;omega
     ·have hw:=Sb hH.pos h.pos hx.le O8;have h3:(wt x+1)*(q.cons.length+1)<=wt p*(q.cons.length+1):=zFn _ hw;rw [zF0] at h3;omega
    obtain ⟨g,g1,g2,g3⟩:=ih AK e1 hH;exact ⟨g,(step.trans e5).ev g1,g2,g3⟩
theorem wU (hp:BK q pos)(BF:cells.length<=LB): ∃ g,Ev (fun n=>aj n q pos cells level) g/\ Kq q level pos g:=by
 have Ez:=hp.len256;have HK: ∀ m,300<=m -> GP m pos=some (BZ pos):=fun m hm=>Mt (zAa Ez.2 (by decide)) (by omega)
 cases hd:BZ pos with
 | true=>
  refine ⟨List.replicate pos.length 0,⟨300,fun n hn=>?_⟩,.inl ⟨hd,rfl⟩⟩
  show Tp n (Bv q pos cells level n) q pos cells level=_
  unfold Tp;rw [HK n hn,zAB,hd,zAK,zAA ⟨rfl,by omega,by omega⟩,zAA zB1.symm]
 | false=>
  have H: ∃ g,Ev (fun n=>Bv q pos cells level n (.l1 (AS q level) (AS q level) ((AS q level).length:Int) 0 (fun _=>[]))) g/\ Fl q (Up q level) pos g/\ P9 q (Up q level) g:=by
   obtain ⟨f,g1,g2,g3⟩:=zEj (q:=q) (level:=level) (p:=pos) (cells:=cells) hp.valid BF;rcases g3 with ⟨h1,h2⟩ | ⟨ws,o,n,qu,Q,h1,h2,h3⟩
   ·refine ⟨pos,?_,.refl pos,fun i hi=>absurd hi (h2 i)⟩;rcases h1 with h1 | ⟨ws,h1⟩
    ·exact h1.ev (Ev.one fun m=>rfl)
    ·exact h1.ev (Ev.one fun m=>rfl)
   ·obtain ⟨g,e1,e2,e3⟩:=yM (pos:=pos) (cells:=cells) g1 g2 _ (zBl _) h1 (p:=pos) ⟨hp,.refl pos,fun h=>(by rw [hd] at h;cases h),fun i hi hn=>absurd (h2 i hi) hn⟩;exact ⟨g,h3.ev e1,e2,e3⟩
  obtain ⟨g,⟨N,h1⟩,h2⟩:=H;have h1: ∀ n,N<=n -> Bv q pos cells level n (.l1 (AS q level) (AS q level) ((AS q level).length:Int) 0 (fun _=>[]))=some g:=h1;obtain ⟨N2,hu⟩:=gv (level:=level) hp.fit hp.valid;have hu: ∀ n,N2<=n -> Sl n q level=some (AS q level):=hu;refine ⟨g,⟨max (max N N2) 300,fun n hn=>?_⟩,.inr ⟨hd,h2⟩⟩
  show Tp n (Bv q pos cells level n) q pos cells level=_
  unfold Tp;rw [HK n (by omega),zAB,hd,zAC,hu n (by omega),zAB];exact h1 n (by omega)
end
theorem zDY {a b:List Int}{n:Nat}(hl:a.length<=LB)(hn:a.length<n):VO n a b=some (decide (a=b)):=by
 have hb:LB<=9223372036854775806:=by decide
 unfold VO pL
 by_cases Af:a.length=b.length
 ·have e:((a.length:Int) != (b.length:Int))=false:=by rw [Af];simp
  rw [e,zAC]
  have key: ∀ (k i n:Nat),i+k=a.length -> k+1<=n -> Rn a b n (.l1 (i:Int))=some (decide (a.drop i=b.drop i)):=by
   intro k
   induction k with
   | zero=>
    intro i n e hn;obtain ⟨n,rfl⟩: ∃ k,n=k+1:=⟨n-1,by omega⟩
    show VN n (Rn a b n) a b (i:Int)=_
    unfold VN;rw [zAI (by omega),zAC,zCc (by omega),zCc (by omega)];rfl
   | succ k ih=>
    intro i n e hn;obtain ⟨n,rfl⟩: ∃ k,n=k+1:=⟨n-1,by omega⟩;have hi:i<a.length:=by omega
    have A8:i<b.length:=by omega
    have d: ∀ {l:List Int},i<l.length -> l.drop i=l.getD i 0::l.drop (i+1):=fun {l} h=>by
     rw [zBw h,u8,zAE h];rfl
    have:=ih (i+1) n (by omega) (by omega)
    show VN n (Rn a b n) a b (i:Int)=_
    unfold VN;rw [zAU (by omega),zAK,zAA ⟨⟨by omega,by omega⟩,by omega,by omega⟩,zAP,zAA (Aw.2 ⟨by omega,by omega⟩),d hi,d A8]
    by_cases h:a.getD i 0=b.getD i 0
    ·have:(a.getD i 0 != b.getD i 0)=false:=by rw [h];simp
     rw [this,zAC];refine Eq.trans (by assumption) ?_;rw [h];simp
    ·have:(a.getD i 0 != b.getD i 0)=true:=by simpa using h
     rw [this,zAK,zAI fun e=>h (zGw e).1]
  exact key a.length 0 n (by omega) (by omega)
 ·have e:((a.length:Int) != (b.length:Int))=true:=by simp;omega
  rw [e,zAK,zAI fun h=>Af (by rw [h])]
def XW (q:AA)(cells:List Int):Bool:=cells.any fun c=>decide (c<0)||decide (c>=q.cells)
section
variable {q:AA} {level:Int} {pos p x cells:List Int}
theorem li {n:Nat}{c:Int}:XQ n c q=some (decide (c<0)||decide (c>=q.cells)):=by
 unfold XQ lh
 by_cases h:c<0
 ·rw [zAU h];rfl
 ·rw [zAI h];rfl
theorem zDj {f:Int -> Bool}{l:List Int}{j:Nat}(hj:j<l.length):(l.drop j).any f=(f (l.getD j 0)||(l.drop (j+1)).any f):=by
 rw [zBw hj,List.any_cons,u8,zAE hj];rfl
theorem lj (hl:cells.length<=LB): ∀ (k j:Nat),j+k=cells.length -> ∃ r:Int,Ev (fun n=>LT cells q n (.l1 (j:Int))) r/\ decide (r>=0)=(cells.drop j).any fun c=>decide (c<0)||decide (c>=q.cells)
 | 0,j,e=>⟨-1,Ev.one fun n=>by
  show O3 n (LT cells q n) cells q (j:Int)=_
  unfold O3;rw [zAI (by omega),zAC],by rw [zCc (by omega)];rfl⟩
 | k+1,j,e=>by
  have hj:j<cells.length:=by omega
  have AK:decide ((j:Int)<(cells.length:Int))=true:=zAU (by omega);have hr:AH ((j:Int)+1):=Aw.2 ⟨by omega,by unfold LB at hl;omega⟩;rw [zDj hj];cases ho:decide (cells.getD j 0<0)||decide (cells.getD j 0>=q.cells) with
  | true=>
   refine ⟨(j:Int),Ev.one fun n=>?_,by rw [Bool.true_or];exact zAU (by omega)⟩
   show O3 n (LT cells q n) cells q (j:Int)=_
   unfold O3;rw [AK,zAK,zAA ⟨by omega,by omega⟩,zAP,li,zAB,ho,zAK]
  | false=>
   obtain ⟨r,h1,h2⟩:=lj hl k (j+1) (by omega);refine ⟨r,BL.ev (BL.one fun n=>?_) h1,by rw [zFq];exact h2⟩
   show O3 n (LT cells q n) cells q (j:Int)=_
   unfold O3;rw [AK,zAK,zAA ⟨by omega,by omega⟩,zAP,li,zAB,ho,zAC,zAA hr,show ((j+1:Nat):Int)=(j:Int)+1 by omega]
theorem zD3 (hl:cells.length<=LB):Ev (fun n=>Y7 n cells q) (XW q cells):=by
 obtain ⟨r,⟨N,h1⟩,h2⟩:=lj (q:=q) hl cells.length 0 (by omega);have h1: ∀ n,N<=n -> LT cells q n (.l1 0)=some r:=h1;refine ⟨N,fun n hn=>?_⟩
 show (LT cells q n (.l1 0)).bind (fun y1=>some (decide (y1>=0)))=_
 rw [h1 n hn,zAB,h2];rfl
theorem Tx (hF:EC q)(hl:pos.length<=LB):Ev (fun n=>Ew n q pos) (C4 q pos):=⟨GE q+pos.length+1,fun n hn=>aq hF (by omega) hl (by omega)⟩
theorem BK.of (hF:EC q)(h:C4 q pos=0):BK q pos:=by
 unfold C4 at h
 by_cases hv:DG q=true
 ·rw [zAA hv] at h
  by_cases hp:posOk q pos=true
  ·exact ⟨hF,hv,hp⟩
  ·rw [zAY hp] at h;exact absurd h (by decide)
 ·rw [zAY hv] at h;exact absurd h (by decide)
theorem BK.check (h:BK q pos):C4 q pos=0:=by
 unfold C4;rw [zAA h.valid,zAA h.ok]
def rG (q:AA)(pos cells:List Int)(level:Int)(r:List Int×Int):Prop:= (C4 q pos≠0/\ r=([],C4 q pos))∨(C4 q pos=0/\ XW q cells=true/\ r=([],1))∨(C4 q pos=0/\ XW q cells=false/\ r.2=0/\ Kq q level pos r.1)
theorem zFI (hF:EC q)(hl:pos.length<=LB)(hc:cells.length<=LB): ∃ r,Ev (fun n=>ZT n q pos cells level) r/\ rG q pos cells level r:=by
 have h1:=Tx hF hl
 by_cases h0:C4 q pos=0
 ·have hp:=BK.of hF h0;have h2:=zD3 (q:=q) hc;cases ho:XW q cells with
  | true=>
   rw [ho] at h2;refine ⟨([],1),?_,.inr (.inl ⟨h0,ho,rfl⟩)⟩;rw [h0] at h1;exact Ev.bind h1 (Ev.bind h2 (Ev.now fun n=>rfl))
  | false=>
   rw [ho] at h2;rw [h0] at h1;obtain ⟨g,g1,g2⟩:=wU (level:=level) (cells:=cells) hp hc;exact ⟨(g,0),Ev.bind h1 (Ev.bind h2 (Ev.bind g1 (Ev.now fun n=>rfl))),.inr (.inr ⟨h0,ho,rfl,g2⟩)⟩
 ·refine ⟨([],C4 q pos),Ev.bind h1 (Ev.now fun n=>?_),.inl ⟨h0,rfl⟩⟩;have:(C4 q pos != 0)=true:=by simpa using h0
  show (bif (C4 q pos != 0) then _ else _)=_
  rw [this];rfl
theorem zFB (hF:EC q)(hl:pos.length<=LB): ∃ r,Ev (fun n=>SM n q pos level) r/\ rG q pos [] level r:=by
 obtain ⟨r,h1,h2⟩:=zFI (level:=level) (cells:=[]) hF hl (by decide);exact ⟨r,Ev.bind h1 (Ev.now fun n=>rfl),h2⟩
inductive L3 (q:AA)(level:Int):List Int -> List Int -> List Int -> Prop
 | done {p:List Int}:P9 q (Up q level) p -> L3 q level p [] p
 | step {p x l g:List Int} {i:Int}:Up q level i -> PR q (con q i) p x -> x≠p -> (∀ i',Up q level i' -> i'<i -> PR q (con q i') p p) -> L3 q level x l g -> L3 q level p (i::l) g
end
section
variable {q:AA} {level i:Int} {pos p x:List Int}
theorem rp:(AS q level).Pairwise (· < ·):=by
 unfold AS FT;refine List.Pairwise.map _ (fun a b h=>?_) (List.Pairwise.filter _ List.pairwise_lt_range);exact Int.ofNat_lt.2 h
theorem rq {b:Nat}(hb:b<(AS q level).length)(hi:Up q level i)(AK:i<(AS q level).getD b 0): ∃ a,a<b/\ (AS q level).getD a 0=i:=by
 obtain ⟨a,ha,e⟩:=zEk (KT.2 hi);have e1:(AS q level).getD a 0=i:=by rw [u8,zAE ha];exact e
 refine ⟨a,zCi fun B2=>?_,e1⟩;rcases Nat.lt_or_eq_of_le B2 with h | h
 ·have:=zGr.1 (rp (q:=q) (level:=level)) b a hb ha h;have e2:(AS q level).getD b 0=(AS q level)[b]:=by rw [u8,zAE hb];rfl
  rw [e2,←e] at AK;omega
 ·subst h;omega
theorem zEP (C:Bt q i p): ∃ x,Ev (fun n=>Vn n i q p) (decide (x≠p),x)/\ PR q (con q i) p x:=by
 obtain ⟨x,h1,h2⟩:=kz C;refine ⟨x,Ev.bind h1 ?_,h2⟩;have hl:x.length<=LB:=by rw [h2.len];exact zAa C.len256.2 (by decide)
 refine Ev.eq (Ev.bind (a:=fun n=>VO n x p) (x:=decide (x=p)) ⟨x.length+1,fun n hn=>zDY hl (by omega)⟩ (b:=fun n y2=>bif y2 then some (false,p) else some (true,x)) (Ev.now fun n=>?_)) (fun n=>rfl)
 by_cases e:x=p
 ·rw [zAU e,zAK,zAI (by simpa using e),e]
 ·rw [zAI e,zAC,zAU (by simpa using e)]
theorem mz (hp:BK q p): ∀ (k a:Nat),a+k=(AS q level).length -> (∀ a',a'<a -> PR q (con q ((AS q level).getD a' 0)) p p) ->
 (Ev (fun n=>LU (AS q level) q p n (.l1 (a:Int) p)) (-1,p)/\ P9 q (Up q level) p)∨
 ∃ b x,Ev (fun n=>LU (AS q level) q p n (.l1 (a:Int) p)) ((b:Nat),x)/\ b<(AS q level).length/\ PR q (con q ((AS q level).getD b 0)) p x/\ x≠p/\ ∀ a',a'<b -> PR q (con q ((AS q level).getD a' 0)) p p
 | 0,a,e,h=>by
  refine .inl ⟨Ev.one fun n=>?_,fun i hi=>?_⟩
  ·show O5 n (LU (AS q level) q p n) (AS q level) q p (a:Int) p=_
   unfold O5;rw [zAI (by omega),zAC]
  ·obtain ⟨a',ha,e1⟩:=zEk (KT.2 hi);have:=h a' (by omega);rw [u8,zAE ha] at this;rw [←e1];exact this
 | k+1,a,e,h=>by
  have ha:a<(AS q level).length:=by omega
  have hU:=WH ha;have Ue:(AS q level).length<=4096:=zAa Sh (EF hp.valid).2.2.2.2.1;have AK:decide ((a:Int)<((AS q level).length:Int))=true:=zAU (by omega);have hr:AH ((a:Int)+1):=Aw.2 ⟨by omega,by omega⟩;obtain ⟨x,⟨N,h1⟩,h2⟩:=zEP (hp.ctx hU.1 hU.2.1);have h1: ∀ n,N<=n -> Vn n ((AS q level).getD a 0) q p=some (decide (x≠p),x):=h1
  by_cases hx:x=p
  ·have hx:=hx.symm;subst hx
   have st:BL (LU (AS q level) q p) (.l1 (a:Int) p) (.l1 ((a+1:Nat):Int) p):=BL.oneN N fun n hn=>by
    show O5 n (LU (AS q level) q p n) (AS q level) q p (a:Int) p=_
    unfold O5;rw [AK,zAK,zAA ⟨by omega,by omega⟩,zAP,h1 n hn,zAB]
    show (bif decide (p≠p) then _ else (if AH ((a:Int)+1) then _ else _))=_
    rw [zAI (by simp),zAC,zAA hr,show ((a+1:Nat):Int)=(a:Int)+1 by omega]
   rcases mz hp k (a+1) (by omega) (fun a' Pb=>by
    by_cases e:a'=a
    ·subst e;exact h2
    ·exact h a' (by omega)) with ⟨g1,g2⟩ | ⟨b,y,g1,g2⟩
   ·exact .inl ⟨st.ev g1,g2⟩
   ·exact .inr ⟨b,y,st.ev g1,g2⟩
  ·refine .inr ⟨a,x,Ev.oneN N fun n hn=>?_,ha,h2,hx,h⟩
   show O5 n (LU (AS q level) q p n) (AS q level) q p (a:Int) p=_
   unfold O5;rw [AK,zAK,zAA ⟨by omega,by omega⟩,zAP,h1 n hn,zAB]
   show (bif decide (x≠p) then _ else _)=_
   rw [zAU hx];rfl
theorem zP (hp:BK q p):(Ev (fun n=>O6 n (AS q level) q p) (-1,p)/\ P9 q (Up q level) p)∨
 ∃ b x,Ev (fun n=>O6 n (AS q level) q p) ((b:Nat),x)/\ b<(AS q level).length/\ Up q level ((AS q level).getD b 0)/\ PR q (con q ((AS q level).getD b 0)) p x/\ x≠p/\ ∀ i',Up q level i' -> i'<(AS q level).getD b 0 -> PR q (con q i') p p:=by
 rcases mz (level:=level) hp (AS q level).length 0 (by omega) (fun a' Pb=>absurd Pb (zBk _)) with ⟨g1,g2⟩ | ⟨b,x,g1,g2,g3,g4,g5⟩
 ·exact .inl ⟨g1,g2⟩
 ·refine .inr ⟨b,x,g1,g2,WH g2,g3,g4,fun i' A8 AK=>?_⟩;obtain ⟨a,ha,e⟩:=rq g2 A8 AK;rw [←e];exact g5 a ha
theorem gK (hp:BK q p):wt p<=16384:=by
 have:=hp.len256.2;unfold wt;refine zAa zHI ?_;rw [zF8];omega
def Kx (q:AA)(level:Int)(p acc:List Int):Qn:=if acc= [] then .l1 (AS q level) else .l2 acc.length (AS q level) p acc
theorem WW {acc:List Int}(h:acc≠[]):Kx q level p acc= .l2 acc.length (AS q level) p acc:=by unfold Kx;rw [zAY h]
theorem lr {M:Nat}{p acc:List Int}(A9: ∀ {p' acc':List Int},wt p'<M -> BK q p' -> (BZ p'=true -> p'=List.replicate p'.length 0) -> acc'.length+wt p'<=20000 -> (acc'= [] -> p'=pos) -> ∃ l g,Ev (fun n=>Hx q pos level n (Kx q level p' acc')) (acc'++l,0)/\ L3 q level p' l g) 
 (hM:wt p<=M) (hp:BK q p) (EN:BZ pos=false) (hz:BZ p=true -> p=List.replicate p.length 0) (hb:acc.length+wt p<=20000) (ha:acc= [] -> p=pos):
 ∃ l g,Ev (fun n=>Hx q pos level n (Kx q level p acc)) (acc++l,0)/\ L3 q level p l g:=by
 have Ez:=hp.len256;have HK: ∀ m,300<=m -> GP m p=some (BZ p):=fun m hm=>Mt (zAa Ez.2 (by decide)) (by omega)
 cases hd:BZ p with
 | true=>
  have AR:acc≠[]:=fun e=>by rw [ha e,EN] at hd;cases hd
  refine ⟨[],p,?_,.done (by rw [hz hd];exact oz Ez.1)⟩;rw [WW AR,zF1];refine Ev.oneN 300 fun n hn=>?_
  show OY n (Hx q pos level n) q pos level acc.length (AS q level) p acc=_
  unfold OY;rw [HK n hn,zAB,hd,zCX,zAC,zAA rfl]
 | false=>
  rcases zP (level:=level) hp with ⟨⟨N,g1⟩,g2⟩ | ⟨b,x,⟨N,g1⟩,g2,g3,g4,g5,g6⟩
  ·have g1: ∀ n,N<=n -> O6 n (AS q level) q p=some (-1,p):=g1;refine ⟨[],p,?_,.done g2⟩;rw [zF1]
   by_cases AR:acc= []
   ·have e:=ha AR;subst e;refine Ev.oneN (max N 300) fun n hn=>?_
    have e0:Kx q level p acc= .l1 (AS q level):=by unfold Kx;rw [zAA AR]
    rw [e0,AR]
    show OZ n (Hx q p level n) q p level (AS q level)=_
    unfold OZ;rw [HK n (by omega),zAB,hd,zCa,zAK,g1 n (by omega),zAB];rfl
   ·rw [WW AR];refine Ev.oneN (max N 300) fun n hn=>?_
    show OY n (Hx q pos level n) q pos level acc.length (AS q level) p acc=_
    unfold OY;rw [HK n (by omega),zAB,hd,zCa,zAK,g1 n (by omega),zAB]
    show (bif decide ((-1:Int)<0) then (if acc.length=acc.length then some (acc,(0:Int)) else none) else _)=_
    rw [zAU (by decide),zAK,zAA rfl]
  ·have g1: ∀ n,N<=n -> O6 n (AS q level) q p=some ((b:Int),x):=g1;have M2:=hp.pr g3.1 g3.2.1 g4;have hw:=Sb M2 hp g4.le g5;have hlx:x.length=p.length:=g4.len;have n8:decide ((b:Int)<0)=false:=zAI (by omega);obtain ⟨l,g,r1,r2⟩:=A9 (p':=x) (acc':=acc++[(AS q level).getD b 0]) (by omega) M2 (fun PW=>by rw [hlx];exact g4.zero PW) (by rw [zBe,zB7];omega) (fun e=>by simp at e);rw [WW (by simp),zGA,List.singleton_append] at r1;refine ⟨(AS q level).getD b 0::l,g,BL.ev (BL.oneN (max N 300) fun n hn=>?_) r1,.step g3 g4 g5 g6 r2⟩
   by_cases AR:acc= []
   ·have e:=ha AR;subst e;have e0:Kx q level p acc= .l1 (AS q level):=by unfold Kx;rw [zAA AR]
    rw [e0,AR]
    show OZ n (Hx q p level n) q p level (AS q level)=_
    unfold OZ;rw [HK n (by omega),zAB,hd,zCa,zAK,g1 n (by omega),zAB]
    show (bif decide ((b:Int)<0) then _ else _)=_
    rw [n8,zAC,zAA ⟨⟨by omega,by omega⟩,⟨rfl,rfl⟩,Nat.one_pos,by unfold A3;simp⟩,zAP];rfl
   ·rw [WW AR]
    show OY n (Hx q pos level n) q pos level acc.length (AS q level) p acc=_
    unfold OY;rw [HK n (by omega),zAB,hd,zCa,zAK,g1 n (by omega),zAB]
    show (bif decide ((b:Int)<0) then _ else _)=_
    rw [n8,zAC,zAA ⟨⟨by omega,by omega⟩,⟨rfl,rfl⟩,⟨rfl,rfl⟩,by unfold A3;rw [zB7];omega⟩,zAP,zBe]
theorem xM: ∀ (M:Nat) {p acc:List Int},wt p<=M -> BK q p -> BZ pos=false -> (BZ p=true -> p=List.replicate p.length 0) -> acc.length+wt p<=20000 -> (acc= [] -> p=pos) ->
 ∃ l g,Ev (fun n=>Hx q pos level n (Kx q level p acc)) (acc++l,0)/\ L3 q level p l g:=by
 intro M
 induction M with
 | zero=>exact fun {p acc} hM hp EN hz hb ha=>lr (fun {p' acc'} h=>absurd h (by omega)) hM hp EN hz hb ha
 | succ M ih=>exact fun {p acc} hM hp EN hz hb ha=>lr (fun {p' acc'} h A5 cK DQ Pb=>ih (by omega) A5 EN cK DQ Pb) hM hp EN hz hb ha
def SR (q:AA)(pos:List Int)(level:Int)(r:List Int×Int):Prop:= (C4 q pos≠0/\ r=([],C4 q pos))∨(C4 q pos=0/\ BZ pos=true/\ r=([],0))∨(C4 q pos=0/\ BZ pos=false/\ r.2=0/\ r.1.length<=20000/\ ∃ g,L3 q level pos r.1 g)
theorem L3.len (hp:BK q p){l g:List Int}(h:L3 q level p l g):l.length+wt g<=wt p:=by
 induction h with
 | done _=>simp
 | step hi hx AR _ _ ih=>
  have M2:=hp.pr hi.1 hi.2.1 hx;have h1:=ih M2;have h2:=Sb M2 hp hx.le AR;rw [zCl];omega
theorem xN (hF:EC q)(hl:pos.length<=LB): ∃ r,Ev (fun n=>T6 n q pos level) r/\ SR q pos level r:=by
 have h1:=Tx hF hl
 by_cases h0:C4 q pos=0
 ·have hp:=BK.of hF h0;rw [h0] at h1;have hu:=gv (level:=level) hp.fit hp.valid;cases hd:BZ pos with
  | true=>
   refine ⟨([],0),Ev.bind h1 (Ev.bind hu ?_),.inr (.inl ⟨h0,hd,rfl⟩)⟩;have Ez:=hp.len256;have HK: ∀ m,300<=m -> GP m pos=some (BZ pos):=fun m hm=>Mt (zAa Ez.2 (by decide)) (by omega)
   refine Ev.oneN 300 fun n hn=>?_
   show OZ n (Hx q pos level n) q pos level (AS q level)=_
   unfold OZ;rw [HK n hn,zAB,hd];rfl
  | false=>
   obtain ⟨l,g,g1,g2⟩:=xM (q:=q) (level:=level) (pos:=pos) (wt pos) (acc:=[]) (zBl _) hp hd (fun h=>by rw [hd] at h;cases h) (by have:=gK hp;simp;omega) (fun _=>rfl);exact ⟨(l,0),Ev.bind h1 (Ev.bind hu g1),.inr (.inr ⟨h0,hd,rfl,by have:=g2.len hp;have:=gK hp;simp only;omega,g,g2⟩)⟩
 ·refine ⟨([],C4 q pos),Ev.bind h1 (Ev.now fun n=>?_),.inl ⟨h0,rfl⟩⟩;have:(C4 q pos != 0)=true:=by simpa using h0
  show (bif (C4 q pos != 0) then _ else _)=_
  rw [this];rfl
end
set_option maxRecDepth 100000
set_option maxHeartbeats 40000000
def zFD (n:Nat)(s_:Int):Option Unit:= some ()
def zFE (n:Nat)(s_:Int):Option Unit:=zFD n s_
theorem zFC {n:Nat}(s_:Int){r:Unit}(h:zFE n s_=some r):EQ 63 [.int .u64 s_] [] (.fn 93 1 (L1 [.ref 0 0])) [oC [.int .u64 s_]] true:=by
 refine ot Tryz.func63 fun B N=>?_
 revert r;apply gO;exact lE AD [2] [0]
inductive SK where
 | l1 (x3:Int)
def Lw (n:Nat)(self:SK -> Option (List Int))(s_:Int)(x3:Int):Option (List Int):= if 0<=x3/\ x3<=(IntKind.u64.bits:Int) then bif ((s_/2 ^ (x3).toNat) != 0) then bif (decide (x3<64)) then bif ((bits .and .u64 (s_/2 ^ (x3).toNat) 1)==1) then if 0<=x3/\ x3<=(IntKind.u64.bits:Int) then bif ((bits .and .u64 (s_/2 ^ (x3).toNat) 1)==1) then Option.map (fun l=>x3::l) (if AH (x3+1) then self (.l1 (x3+1)) else none) else if AH (x3+1) then self (.l1 (x3+1)) else none else none else if AH (x3+1) then self (.l1 (x3+1)) else none else some [] else some [] else none
def qo (n:Nat)(self:SK -> Option (List Int))(s_:Int):Option (List Int):= self (.l1 0)
def Hl (s_:Int):Nat -> SK -> Option (List Int)
 | 0,_=>none
 | n+1,.l1 x3=>Lw n (Hl s_ n) s_ x3
def Lx (n:Nat)(s_:Int):Option (List Int):=qo n (Hl s_ n) s_
def fv (C:Df Tryz.prog)(n:Nat)(s_:Int)(r:List Int):SK -> Prop
 | .l1 x3=>∀ m0:Nat,n<=m0 -> ∀ i:Nat,i<=C.encs.length -> C.encs.drop i=r.map Bj -> An Tryz.prog GG Fence.wide none 1 (C.Y GG 1 i) (C.Q GG 1) (Ax m0 (A7 (AY Tryz.f93) 0 [])) ⟨AF 25 [(0,.yl C.l),(1,.ref 0 0),(3,.i x3)],[oC [.int .u64 s_]]⟩
theorem zFF (C:Df Tryz.prog)(n:Nat)(self:SK -> Option (List Int))(s_:Int)(AJ: ∀ pt r,self pt=some r -> fv C n s_ r pt)(x3:Int)(r:List Int)(h:Lw n self s_ x3=some r):fv C (n+1) s_ r (.l1 x3):=by
 intro m0 AC;intro i hi hd;refine rd AC fun m0 AC=>?_
 unfold Lw at h;obtain ⟨g0,h⟩:=C1 h;have p:=H0.g g0;rcases C8 h with ⟨c0,h⟩ | ⟨c0,h⟩
 ·have p:=p.b 7 c0;rcases C8 h with ⟨c1,h⟩ | ⟨c1,h⟩
  ·have p:=p.b 10 c1 |>.g g0
   rcases C8 h with ⟨c2,h⟩ | ⟨c2,h⟩
   ·have p:=H0.g g0 |>.b 7 c0 |>.b 10 c1
    refine gs (AX 3 AD) [0] p (EU (AY Tryz.f93) 3 [m0]) (AF 25 [(0,.yl C.l),(1,.ref 0 0),(3,.i x3)]) [oC [.int .u64 s_]] ?_;obtain ⟨g1,h⟩:=C1 h;have p:=H0.g g1;rcases C8 h with ⟨c0,h⟩ | ⟨c0,h⟩
    ·have p:=p.b 18 c0;obtain ⟨r,h2,rfl⟩:=Qx h;clear h;have h:=h2;clear h2;obtain ⟨hx,hi,hd⟩:=er hd;refine An.y (ops:=A4 Tryz.f93 3) HC.x 8 [0,1,3,24] [0] p (x:=Bj x3) (AF 25 [(0,.yl C.l),(1,.ref 0 0),(3,.i x3),(24,.bool false)]) [oC [.int .u64 s_]] (AF 25 [(0,.yl C.l),(1,.ref 0 0),(3,.i x3),(24,.bool true)]) [oC [.int .u64 s_]] (by kernel_rfl) (by kernel_rfl) (by kernel_rfl) hx (by kernel_rfl) ?_ ?_
     ·generalize i+1=i at hi hd ⊢
      obtain ⟨g2,h⟩:=C1 h;have p:=H0.w 13 g2;exact gg AD [0] p (AJ _ _ h m0 AC i hi hd)
     ·exact TrI.e HC.x AD 6 H0 (by kernel_rfl) (.inr rfl)
    ·obtain ⟨g2,h⟩:=C1 h;have p:=p.b 18 c0 |>.w 13 g2
     exact gg AD [0] p (AJ _ _ h m0 AC i hi hd)
   ·obtain ⟨g1,h⟩:=C1 h;have p:=p.b 18 c2 |>.w 13 g1
    exact gg AD [0] p (AJ _ _ h m0 AC i hi hd)
  ·have p:=p.b 10 c1;cases h;exact TrI.e HC.x AD 10 p (by kernel_rfl) (.inl (by rw [VU hi hd]))
 ·have p:=p.b 7 c0;cases h;exact TrI.e HC.x AD 10 p (by kernel_rfl) (.inl (by rw [VU hi hd]))
theorem qp (C:Df Tryz.prog)(s_:Int): ∀ (n:Nat) (pt:SK) (r:List Int),Hl s_ n pt=some r -> fv C n s_ r pt
 | 0,_,_,h=>by cases h
 | n+1,.l1 x3,r,h=>zFF C n (Hl s_ n) s_ (qp C s_ n) x3 r h
theorem zFG {n:Nat}(s_:Int){r:List Int}(h:Lx n s_=some r)(C:Df Tryz.prog)(hC:C.encs=r.map Bj):An Tryz.prog GG Fence.wide none 1 (C.Y GG 1 0) (C.Q GG 1) [.code (AY Tryz.f93)] ⟨AF 25 [(0,.yl C.l),(1,.ref 0 0)],[oC [.int .u64 s_]]⟩:=by
 suffices H: ∀ i:Nat,i<=C.encs.length -> C.encs.drop i=r.map Bj -> An Tryz.prog GG Fence.wide none 1 (C.Y GG 1 i) (C.Q GG 1) [.code (AY Tryz.f93)] ⟨AF 25 [(0,.yl C.l),(1,.ref 0 0)],[oC [.int .u64 s_]]⟩ from H 0 (zFo _) (by rw [zFt];exact hC)
 intro i hi hd;have AJ:=qp C s_ n;unfold Lx at h
 generalize Hl s_ n=self at h AJ
 unfold qo at h;have p:=H0;exact gg AD [0] p (en n (AJ _ _ h n Nat.le.refl i hi hd))
theorem fq {n:Nat}{s_:Int}{r:List Int}(h:Lx n s_=some r)(H:DH):EQ 63 [.int .u64 s_] H (.it H.length) (H++[some (.iter (r.map Bj))]) true:=by
 refine ES.iterN (c:=L1 [.ref 0 0]) (h0:=[oC [.int .u64 s_]]) (fn:=Tryz.f93) (zFC (n:=0) s_ (r:=()) rfl) (by kernel_rfl) Tryz.func93 (by kernel_rfl) (by kernel_rfl) (by kernel_rfl) (fun C hC=>?_) H;have e:DV.yl C.l::(List.range 1).map (L1 [.ref 0 0])++List.replicate (Tryz.f93.ntmps-(1+1)) .any=AF 25 [(0,.yl C.l),(1,.ref 0 0)]:=by kernel_rfl
 rw [e];exact zFG s_ h C hC
inductive MN where
 | s0 (KD:Int)
def jV:MN -> DH
 | .s0 KD=>[oC [.i KD],none]
def TD (n:Nat)(e5:Int)(KD:Int):Option MN:= if AH (KD+1) then some (.s0 (KD+1)) else none
def tP (n:Nat)(e5:Int):MN -> Option MN
 | .s0 KD=>TD n e5 KD
def Wa (n:Nat)(e5:Int)(s:MN):Option MN:=tP n e5 s
theorem tO (n:Nat)(l B:Nat)(N:Yd 2)(e5:Int)(s:MN)(r:MN)(h:Wa n e5 s=some r):TA l B N (Cf 2 [] 0 (jV r)) Tryz.f39 5 ⟨AF 10 [(2,.ref 0 0),(5,.it 1),(6,.i e5)],jV s⟩:=by
 cases s with
 | s0 KD=>
  replace h:TD n e5 KD=some r:=h;unfold TD at h;refine ag AD [0,1] H0 (AF 10 [(2,.ref 0 0)]) [oC [.i KD],none] fun N=>?_
  revert r;apply gO;exact gw 8 (jt (lF fun p=>rr AD [0,1] rfl p))
def WZ (n:Nat)(s_:Int):Option Int:=
 (Lx n (IntKind.u64.wrap s_)).bind fun y1=>
  (B9 (Wa n) y1 (.s0 0)).bind fun y2=>
   match y2 with
   | .s0 EV=>
    some EV
def TE (n:Nat)(s_:Int):Option Int:=WZ n s_
theorem tM {n:Nat}{s_:Int}{r:Int}(h:TE n s_=some r):EQ 39 [.i s_] [] (.i r) [] true:=by
 unfold TE WZ at h;refine ot Tryz.func39 fun B N=>?_
 revert r;apply gO
 exact cn fun y1 Au=>jc (fq Au [oC [.i 0]]) (cn fun y2 Cd=>fun p r h=>by
  refine gs AD [0,1] p (GZ (AY Tryz.f39) 5 []) (AF 10 [(2,.ref 0 0),(5,.it 1)]) [oC [.i 0],some (.iter ((y1).map Bj))] ?_;refine r0 1 5 #[6] Bj 2 Cd (tO n) ?_;cases y2 with
  | s0 EV=>
   dsimp only at h
   revert r;apply gO;exact jt (lE AD [2] [0]))
end Go.Proofs.YtodinaconebmdaaGreatDoor
namespace Go.Proofs.YtodinaconebmdaaGreatDoor
open Go.RowKit
def Cn (x:Int)(i:Nat):List Nat:=(List.range' i (16-i)).filter fun s=>tb x s
theorem jh {x:Int}{i:Nat}(h:i<16):Cn x i=if tb x i then i::Cn x (i+1) else Cn x (i+1):=by
 unfold Cn;rw [show 16-i=(16-(i+1))+1 by omega,zHK,List.filter_cons]
theorem UH {x:Int}{s:Nat}:s∈Cn x 0↔s<16/\ tb x s=true:=by
 unfold Cn;rw [zGB,zHC];simp
theorem zEg (a:Int):bits .and .u64 a 1=bits .and .i64 a 1:=by
 show IntKind.u64.wrap ((BitVec.ofInt 64 a&&& BitVec.ofInt 64 1).toNat:Int)=IntKind.i64.wrap ((BitVec.ofInt 64 a&&& BitVec.ofInt 64 1).toNat:Int)
 have h:(BitVec.ofInt 64 a&&& BitVec.ofInt 64 1).toNat<=1:=by
  rw [BitVec.toNat_and];exact Nat.and_le_right
 generalize (BitVec.ofInt 64 a&&& BitVec.ofInt 64 1).toNat=m at h
 rw [IntKind.wrap_u64,zGo];omega
section
variable {x:Int}
theorem jY (h:Sm 16 x){i:Nat}(h0:x/2 ^ i=0):Cn x i= []:=by
 have AK:x<2 ^ i:=by
  have hp:(0:Int)<2 ^ i:=Int.pow_pos (by decide);have:=Int.mul_ediv_add_emod x (2 ^ i);have hm:=Int.emod_lt_of_pos x hp;rw [h0] at this;simp at this;omega
 unfold Cn;rw [zHB];intro s hs ht;rw [zHC] at hs;have:tb x s=false:=Sm.hi (k:=i) ⟨h.1,AK⟩ hs.1;rw [this] at ht;cases ht
theorem fu (h:Sm 16 x): ∀ (k i:Nat),i+k=16 -> Ev (fun n=>Hl x n (.l1 (i:Int))) ((Cn x i).map fun (s:Nat)=>(s:Int))
 | 0,i,e=>by
  have h0:x/2 ^ i=0:=by
   rw [show i=16 by omega];exact Int.ediv_eq_zero_of_lt h.1 h.2
  refine Ev.one fun n=>?_
  show Lw n (Hl x n) x (i:Int)=_
  unfold Lw;rw [zAA ⟨by omega,by show (i:Int)<=((64:Nat):Int);omega⟩,zAP,h0,jY h h0];rfl
 | k+1,i,e=>by
  have ih:=fu h k (i+1) (by omega);have r1:AH ((i:Int)+1):=Aw.2 ⟨by omega,by omega⟩;have g:(0:Int)<=(i:Int)/\ (i:Int)<=(IntKind.u64.bits:Int):=⟨by omega,by show (i:Int)<=((64:Nat):Int);omega⟩
  by_cases h0:x/2 ^ i=0
  ·refine Ev.one fun n=>?_
   show Lw n (Hl x n) x (i:Int)=_
   unfold Lw;rw [zAA g,zAP,h0,jY h h0];rfl
  ·have step: ∀ n,Hl x (n+1) (.l1 (i:Int))=bif tb x i then (Hl x n (.l1 ((i+1:Nat):Int))).map (fun l=>(i:Int)::l) else Hl x n (.l1 ((i+1:Nat):Int)):=fun n=>by
    show Lw n (Hl x n) x (i:Int)=_
    unfold Lw;rw [zAA g,zAP,zFy.2 h0,zAK,zAU (by omega),zAK,zEg,tR h (by decide) (by omega),zAA r1,show ((i+1:Nat):Int)=(i:Int)+1 by omega];cases tb x i
    ·rfl
    ·rw [zAK,zAK,zAA g]
   rw [jh (by omega)];obtain ⟨N,ih⟩:=ih;refine ⟨N+1,fun n hn=>?_⟩;obtain ⟨n,rfl⟩: ∃ k,n=k+1:=⟨n-1,by omega⟩
   show Hl x (n+1) (.l1 (i:Int))=_
   rw [step n,show Hl x n (.l1 ((i+1:Nat):Int))=_ from ih n (by omega)];cases tb x i <;> rfl
theorem jU {n:Nat}: ∀ (l:List Int) (k:Nat),k+l.length<=64 -> B9 (Wa n) l (.s0 (k:Int))=some (.s0 ((k+l.length:Nat):Int))
 | [],k,_=>rfl
 | a::l,k,h=>by
  rw [zCl] at h
  show (TD n a (k:Int)).bind _=_
  unfold TD;rw [zAA (Aw.2 ⟨by omega,by omega⟩),zAB,show (k:Int)+1=((k+1:Nat):Int) by omega,jU l (k+1) (by omega),zCl]
  congr 3
  omega
theorem ji:(Cn x 0).length<=16:=by
 unfold Cn;exact zAa (zHJ _ _) (by simp)
theorem tN (h:Sm 16 x):Ev (fun n=>TE n x) ((Cn x 0).length:Int):=by
 have e:IntKind.u64.wrap x=x:=by
  have h1:=h.1;have h2:x<65536:=h.2;rw [IntKind.wrap_u64];omega
 have hl:=ji (x:=x);refine Ev.eq (Ev.bind (fu h 16 0 (by omega)) (b:=fun n y1=>(B9 (Wa n) y1 (.s0 0)).bind fun y2=>match y2 with | .s0 y=>some y) (Ev.now fun n=>?_)) fun n=>?_
 ·have:=jU (n:=n) ((Cn x 0).map fun (s:Nat)=>(s:Int)) 0 (by rw [zCM];omega);rw [zBy,zCM] at this;rw [show ((0:Nat):Int)=0 from rfl] at this;rw [this];rfl
 ·show WZ n x=_
  unfold WZ;rw [e];rfl
end
set_option maxRecDepth 100000
set_option maxHeartbeats 40000000
def lu (n:Nat)(s_ Gi:Int):Option Int:= if 0<=Gi/\ Gi<=(IntKind.u64.bits:Int) then some (bits .and .u64 s_ (IntKind.u64.wrap (1*2 ^ (Gi).toNat))) else none
def XX (n:Nat)(s_ Gi:Int):Option Int:=lu n s_ Gi
theorem xT {n:Nat}{s_ Gi:Int}{r:Int}(h:XX n s_ Gi=some r):EQ 35 [.int .u64 s_,.i Gi] [] (.int .u64 r) [] true:=by
 refine ot Tryz.func35 fun B N=>?_
 revert r;apply gO;exact gi (lE AD [4] [])
def fM (n:Nat)(q:AA)(pos:List Int)(cell sy:Int):Option ((List Int)×Int):= (Ew n q pos).bind fun y1=> bif (y1 != 0) then some (([]:List Int),y1) else bif (decide (cell<0)) then some (([]:List Int),1) else bif (decide (cell>=q.cells)) then some (([]:List Int),1) else bif (decide (sy<0)) then some (([]:List Int),1) else bif (decide (sy>=q.symbols)) then some (([]:List Int),1) else if ((True)/\ (0=0/\ 0=([]:List Int).length)/\ ([]:List Int).length+pos.length<=A3)/\ (0<=cell/\ cell<((([]:List Int).length+pos.length:Nat):Int))/\ 0+((cell).toNat)<(([]:List Int)++pos).length then (XX n (IntKind.u64.wrap ((([]:List Int)++pos).getD (0+((cell).toNat)) 0)) sy).bind fun y2=> if ([]:List Int).length+pos.length=((([]:List Int)++pos).set (0+((cell).toNat)) (IntKind.i64.wrap y2)).length then (Qq n ((([]:List Int)++pos).set (0+((cell).toNat)) (IntKind.i64.wrap y2))).bind fun y3=> some (y3,0) else none else none
def ZH (n:Nat)(q:AA)(pos:List Int)(cell sy:Int):Option ((List Int)×Int):=fM n q pos cell sy
theorem zER {n:Nat}{q:AA}{pos:List Int}{cell sy:Int}{r:(List Int)×Int}(h:ZH n q pos cell sy=some r):EQ 34 [.agg 5 (L1 (AG q)),.ints pos,.i cell,.i sy,.fn 35 0 (L1 [])] [] (.tup 2 (L1 [.ints r.1,.i r.2])) [] true:=by
 unfold ZH fM at h;refine ot Tryz.func34 fun B N=>?_
 revert r;apply gO
 exact cf KH [oC (AG q)] fun y1=>bi 18 (lF fun p=>el AD [10,11] [] p [] H0 [.nils,.i y1] (AL.tupL (l:=[.nils,.i y1]) (l':=[.ints ([]:List Int),.i y1]) rfl ⟨AL.ints_nil,Ay,trivial⟩)) (bi 21 (lF fun p=>el AD [10,11] [] p [] H0 [.nils,.i 1] (AL.tupL (l:=[.nils,.i 1]) (l':=[.ints ([]:List Int),.i 1]) rfl ⟨AL.ints_nil,Ay,trivial⟩)) (bi 26 (lF fun p=>el AD [10,11] [] p [] H0 [.nils,.i 1] (AL.tupL (l:=[.nils,.i 1]) (l':=[.ints ([]:List Int),.i 1]) rfl ⟨AL.ints_nil,Ay,trivial⟩)) (bi 30 (lF fun p=>el AD [10,11] [] p [] H0 [.nils,.i 1] (AL.tupL (l:=[.nils,.i 1]) (l':=[.ints ([]:List Int),.i 1]) rfl ⟨AL.ints_nil,Ay,trivial⟩)) (bi 36 (lF fun p=>el AD [10,11] [] p [] H0 [.nils,.i 1] (AL.tupL (l:=[.nils,.i 1]) (l':=[.ints ([]:List Int),.i 1]) rfl ⟨AL.ints_nil,Ay,trivial⟩)) (gc (gi (gc (gn fun g1=>jg g1 (gn fun g2=>jg g2 (cf xT [oC (AG q),none,oI (([]:List Int)++pos)] fun y2=>jg g1 (jg g2 (gn fun g3=>fun p r h=>by
  refine gz (AX 8 AD) [2] p [0] (H0.g g3) (EU (AY Tryz.f34) 8 []) (AF 55 [(13,.ints ((([]:List Int)++pos).set (0+((cell).toNat)) (IntKind.i64.wrap y2)))]) [none] ?_;revert r;apply gO;exact cf xh [none] fun _=>lE AD [10,11] []))))))))))))
def eQ (n:Nat)(q:AA)(pos:List Int)(cell Gi:Int):Option ((List Int)×Int):= (ZH n q pos cell Gi).bind fun y1=> some (y1.1,y1.2)
def Rj (n:Nat)(q:AA)(pos:List Int)(cell Gi:Int):Option ((List Int)×Int):=eQ n q pos cell Gi
theorem zC7 {n:Nat}{q:AA}{pos:List Int}{cell Gi:Int}{r:(List Int)×Int}(h:Rj n q pos cell Gi=some r):EQ 22 [.agg 5 (L1 (AG q)),.ints pos,.i cell,.i Gi] [] (.tup 2 (L1 [.ints r.1,.i r.2])) [] true:=by
 unfold Rj eQ at h;refine ot Tryz.func22 fun B N=>?_
 revert r;apply gO;exact cf zER [oC (AG q)] fun _=>lE AD [8,9] []
def zAl (CM:Nat)(y1 o1:List Int):DH:=[oC [.msl 4 1 0 CM],oC [.bool false],oC [.i 0],some (.iter ((y1).map Bj)),oI o1]
def zAk (JK:Nat)(DB:Int)(HU:List Int):DH:=[oC [.msl 4 1 0 JK],oC [.bool false],oC [.i DB],none,oI HU]
def zAj (JL:Nat)(DC:Int)(HV:List Int):DH:=[oC [.msl 4 1 0 JL],oC [.bool false],oC [.i DC],none,oI HV]
inductive Ky where
 | s0 (JL:Nat) (DC:Int) (HV:List Int)
 | s1 (DB:Int)
def jO (pos:List Int)(x10:Int):Ky -> DH
 | .s0 JL DC HV=>[oC [.msl 4 1 0 JL],oC [.bool false],oC [.i DC],none,oI HV]
 | .s1 DB=>[oC [.nils],oC [.bool false],oC [.i DB],none]
def N9 (n:Nat)(pos:List Int)(x10 Bp:Int)(JL:Nat)(DC:Int)(HV:List Int):Option (Ky×Nat):= if AH (DC+1) then bif (decide ((DC+1)>1)) then some (.s1 (DC+1),1) else bif (decide (Bp>=16)) then some (.s1 (DC+1),1) else if (0=0/\ 1=([Bp]:List Int).length)/\ (0=0/\ JL=HV.length)/\ HV.length+([Bp]:List Int).length<=A3 then some (.s0 (HV.length+([Bp]:List Int).length) (DC+1) (HV++([Bp]:List Int)),0) else none else none
def Z9 (n:Nat)(pos:List Int)(x10 Bp:Int)(DB:Int):Option (Ky×Nat):= if AH (DB+1) then bif (decide ((DB+1)>1)) then some (.s1 (DB+1),1) else bif (decide (Bp>=16)) then some (.s1 (DB+1),1) else if (0=0/\ 1=([Bp]:List Int).length)/\ 0<([Bp]:List Int).length/\ ([Bp]:List Int).length<=A3 then some (.s0 (([Bp]:List Int).length) (DB+1) ([Bp]:List Int),0) else none else none
def tE (n:Nat)(pos:List Int)(x10 Bp:Int):Ky -> Option (Ky×Nat)
 | .s0 JL DC HV=>N9 n pos x10 Bp JL DC HV
 | .s1 DB=>Z9 n pos x10 Bp DB
def S8 (n:Nat)(pos:List Int)(x10 Bp:Int)(s:Ky):Option (Ky×Nat):=tE n pos x10 Bp s
theorem tC (n:Nat)(pos:List Int)(x10:Int)(l B:Nat)(N:Yd 4)(Bp:Int)(s:Ky)(r:Ky×Nat)(h:S8 n pos x10 Bp s=some r):TA l B N (Cf 4 [.ret] r.2 (jO pos x10 r.1)) Tryz.f54 16 ⟨AF 34 [(2,.ref 0 0),(3,.ref 1 0),(6,.ref 2 0),(8,.ints pos),(9,.i (pos.length:Int)),(10,.i x10),(16,.it 3),(17,.i Bp)],jO pos x10 s⟩:=by
 cases s with
 | s0 JL DC HV=>
  replace h:N9 n pos x10 Bp JL DC HV=some r:=h;unfold N9 at h;refine ag AD [0,1,2,3,4] H0 (AF 34 [(2,.ref 0 0),(3,.ref 1 0),(6,.ref 2 0),(7,.i Bp)]) (zAj JL DC HV) fun N=>?_
  revert r;apply gO;exact gw 19 (jt (bi 21 (jt (jt (lF fun p=>rr AD [0,1,2,3] rfl p))) (bi 24 (jt (jt (lF fun p=>rr AD [0,1,2,3] rfl p))) (gi (jt (lF fun p=>rr AD [0,1,2,3,6] rfl p))))))
 | s1 DB=>
  replace h:Z9 n pos x10 Bp DB=some r:=h;unfold Z9 at h;refine ag AD [0,1,2,3] H0 (AF 34 [(2,.ref 0 0),(3,.ref 1 0),(6,.ref 2 0),(7,.i Bp)]) [oC [.nils],oC [.bool false],oC [.i DB],none] fun N=>?_
  revert r;apply gO;exact gw 19 (jt (bi 21 (jt (jt (lF fun p=>rr AD [0,1,2,3] rfl p))) (bi 24 (jt (jt (lF fun p=>rr AD [0,1,2,3] rfl p))) (gi (jt (lF fun p=>rr AD [0,1,2,3,5] rfl p))))))
inductive Kz where
 | s0 (DC:Int)
 | s1 (JK:Nat) (DB:Int) (HU:List Int)
def jN (pos:List Int)(x10:Int):Kz -> DH
 | .s0 DC=>[oC [.nils],oC [.bool false],oC [.i DC],none]
 | .s1 JK DB HU=>[oC [.msl 4 1 0 JK],oC [.bool false],oC [.i DB],none,oI HU]
def S7 (n:Nat)(pos:List Int)(x10 Bp:Int)(DC:Int):Option (Kz×Nat):= if AH (DC+1) then bif (decide ((DC+1)>1)) then some (.s0 (DC+1),1) else bif (decide (Bp>=16)) then some (.s0 (DC+1),1) else if (0=0/\ 1=([Bp]:List Int).length)/\ 0<([Bp]:List Int).length/\ ([Bp]:List Int).length<=A3 then some (.s1 (([Bp]:List Int).length) (DC+1) ([Bp]:List Int),0) else none else none
def S6 (n:Nat)(pos:List Int)(x10 Bp:Int)(JK:Nat)(DB:Int)(HU:List Int):Option (Kz×Nat):= if AH (DB+1) then bif (decide ((DB+1)>1)) then some (.s0 (DB+1),1) else bif (decide (Bp>=16)) then some (.s0 (DB+1),1) else if (0=0/\ 1=([Bp]:List Int).length)/\ (0=0/\ JK=HU.length)/\ HU.length+([Bp]:List Int).length<=A3 then some (.s1 (HU.length+([Bp]:List Int).length) (DB+1) (HU++([Bp]:List Int)),0) else none else none
def tB (n:Nat)(pos:List Int)(x10 Bp:Int):Kz -> Option (Kz×Nat)
 | .s0 DC=>S7 n pos x10 Bp DC
 | .s1 JK DB HU=>S6 n pos x10 Bp JK DB HU
def S9 (n:Nat)(pos:List Int)(x10 Bp:Int)(s:Kz):Option (Kz×Nat):=tB n pos x10 Bp s
theorem tA (n:Nat)(pos:List Int)(x10:Int)(l B:Nat)(N:Yd 4)(Bp:Int)(s:Kz)(r:Kz×Nat)(h:S9 n pos x10 Bp s=some r):TA l B N (Cf 4 [.ret] r.2 (jN pos x10 r.1)) Tryz.f54 16 ⟨AF 34 [(2,.ref 0 0),(3,.ref 1 0),(6,.ref 2 0),(8,.ints pos),(9,.i (pos.length:Int)),(10,.i x10),(16,.it 3),(17,.i Bp)],jN pos x10 s⟩:=by
 cases s with
 | s0 DC=>
  replace h:S7 n pos x10 Bp DC=some r:=h;unfold S7 at h;refine ag AD [0,1,2,3] H0 (AF 34 [(2,.ref 0 0),(3,.ref 1 0),(6,.ref 2 0),(7,.i Bp)]) [oC [.nils],oC [.bool false],oC [.i DC],none] fun N=>?_
  revert r;apply gO;exact gw 19 (jt (bi 21 (jt (jt (lF fun p=>rr AD [0,1,2,3] rfl p))) (bi 24 (jt (jt (lF fun p=>rr AD [0,1,2,3] rfl p))) (gi (jt (lF fun p=>rr AD [0,1,2,3,5] rfl p))))))
 | s1 JK DB HU=>
  replace h:S6 n pos x10 Bp JK DB HU=some r:=h;unfold S6 at h;refine ag AD [0,1,2,3,4] H0 (AF 34 [(2,.ref 0 0),(3,.ref 1 0),(6,.ref 2 0),(7,.i Bp)]) (zAk JK DB HU) fun N=>?_
  revert r;apply gO;exact gw 19 (jt (bi 21 (jt (jt (lF fun p=>rr AD [0,1,2,3] rfl p))) (bi 24 (jt (jt (lF fun p=>rr AD [0,1,2,3] rfl p))) (gi (jt (lF fun p=>rr AD [0,1,2,3,6] rfl p))))))
inductive TB where
 | l1 (x10:Int)
 | l2 (x10:Int) (CM:Nat) (o1:List Int)
def N8 (n:Nat)(self:TB -> Option ((List Int)×Bool))(pos:List Int)(x10:Int):Option ((List Int)×Bool):=
 bif (decide (x10<(pos.length:Int))) then
  if 0<=x10/\ x10<(pos.length:Int) then
   (Lx n (IntKind.u64.wrap (pos.getD ((x10).toNat) 0))).bind fun y1=>
    (CN (S9 n pos x10) y1 (.s0 0)).bind fun y2=>
     bif y2.2==0 then
      match y2.1 with
      | .s0 EV=>
       bif (EV==0) then
        some (([]:List Int),false)
       else
        if AH (x10+1) then
         self (.l1 (x10+1))
        else none
      | .s1 Jy V9 QC=>
       bif (V9==0) then
        some (([]:List Int),false)
       else
        if AH (x10+1) then
         self (.l2 (x10+1) Jy QC)
        else none
     else
      bif y2.2==1 then
       match y2.1 with
       | .s0 EV=>
        some (([]:List Int),false)
       | .s1 Jy V9 QC=>
        if Jy=QC.length then
         some (QC,false)
        else none
      else
       none
  else none
 else
  some (([]:List Int),true)
def N7 (n:Nat)(self:TB -> Option ((List Int)×Bool))(pos:List Int)(x10:Int)(CM:Nat)(o1:List Int):Option ((List Int)×Bool):=
 bif (decide (x10<(pos.length:Int))) then
  if 0<=x10/\ x10<(pos.length:Int) then
   (Lx n (IntKind.u64.wrap (pos.getD ((x10).toNat) 0))).bind fun y1=>
    (CN (S8 n pos x10) y1 (.s0 CM 0 o1)).bind fun y2=>
     bif y2.2==0 then
      match y2.1 with
      | .s0 EV WA QD=>
       bif (WA==0) then
        some (([]:List Int),false)
       else
        if AH (x10+1) then
         self (.l2 (x10+1) EV QD)
        else none
      | .s1 Jy=>
       bif (Jy==0) then
        some (([]:List Int),false)
       else
        if AH (x10+1) then
         self (.l1 (x10+1))
        else none
     else
      bif y2.2==1 then
       match y2.1 with
       | .s0 EV WA QD=>
        if EV=QD.length then
         some (QD,false)
        else none
       | .s1 Jy=>
        some (([]:List Int),false)
      else
       none
  else none
 else
  if CM=o1.length then
   some (o1,true)
  else none
def s9 (n:Nat)(self:TB -> Option ((List Int)×Bool))(pos:List Int):Option ((List Int)×Bool):= self (.l1 0)
def Gk (pos:List Int):Nat -> TB -> Option ((List Int)×Bool)
 | 0,_=>none
 | n+1,.l1 x10=>N8 n (Gk pos n) pos x10
 | n+1,.l2 x10 CM o1=>N7 n (Gk pos n) pos x10 CM o1
def WY (n:Nat)(pos:List Int):Option ((List Int)×Bool):=s9 n (Gk pos n) pos
def tF (n B:Nat)(N:Yd 0)(pos:List Int)(r:(List Int)×Bool):TB -> Prop
 | .l1 x10=>∀ m0:Nat,n<=m0 -> TW B N (FQ Tryz.f54 0 (.tup 2 (L1 [.ints r.1,.bool r.2])) []) (Ax m0 (A7 (AY Tryz.f54) 0 [])) ⟨AF 34 [(2,.ref 0 0),(3,.ref 1 0),(8,.ints pos),(9,.i (pos.length:Int)),(10,.i x10)],[oC [.nils],oC [.bool false]]⟩
 | .l2 x10 CM o1=>∀ m0:Nat,n<=m0 -> TW B N (FQ Tryz.f54 0 (.tup 2 (L1 [.ints r.1,.bool r.2])) []) (Ax m0 (A7 (AY Tryz.f54) 0 [])) ⟨AF 34 [(2,.ref 0 0),(3,.ref 2 0),(8,.ints pos),(9,.i (pos.length:Int)),(10,.i x10)],[oC [.msl 1 1 0 CM],oI o1,oC [.bool false]]⟩
theorem tG (B:Nat)(N:Yd 0)(pos:List Int):Al (Gk pos) (tF · B N pos):=ia (fun _=>rfl) fun n AJ pt r h=>by
 cases pt
 case l1 x10=>
  intro m0 AC;refine rd AC fun m0 AC=>?_
  revert r;apply gO
  exact bi 11 (gi (jt (cn fun y1 Au=>jc (fq Au [oC [.nils],oC [.bool false],oC [.i 0]]) (cn fun y2 Cd=>fun p r h=>by
   refine gs AD [0,1,2,3] p (GZ (AY Tryz.f54) 16 [m0]) (AF 34 [(2,.ref 0 0),(3,.ref 1 0),(6,.ref 2 0),(8,.ints pos),(9,.i (pos.length:Int)),(10,.i x10),(16,.it 3)]) [oC [.nils],oC [.bool false],oC [.i 0],some (.iter ((y1).map Bj))] ?_;refine rx [.ret] 3 16 #[17] Bj 4 Cd (tA n pos x10) fun e he=>?_
   replace h:=C8 h;rcases h with ⟨I7,h⟩ | ⟨I7,h⟩
   ·rw [eq_of_beq I7] at he;cases he;revert h;cases y2.1 with
    | s0 EV=>
     intro h
     dsimp only at h
     revert r;apply gO;exact bi 31 (jt (jt (lF fun p=>el AD [2,3] [0,1] p [] H0 [.nils,.bool false] (AL.tupL (l:=[.nils,.bool false]) (l':=[.ints ([]:List Int),.bool false]) rfl ⟨AL.ints_nil,Ay,trivial⟩)))) (gw 32 (lG AD [0,1] (AJ _ _ · m0 AC)))
    | s1 Jy V9 QC=>
     intro h
     dsimp only at h
     revert r;apply gO;exact bi 31 (jt (jt (lF fun p=>el AD [2,3] [0,1] p [] H0 [.nils,.bool false] (AL.tupL (l:=[.nils,.bool false]) (l':=[.ints ([]:List Int),.bool false]) rfl ⟨AL.ints_nil,Ay,trivial⟩)))) (gw 32 (lG AD [0,4,1] (AJ _ _ · m0 AC)))
   ·replace h:=C8 h;rcases h with ⟨I7,h⟩ | ⟨I7,h⟩
    ·rw [eq_of_beq I7] at he;cases he;refine Md ⟨rfl,?_⟩ _;revert h;cases y2.1 with
     | s0 EV=>
      intro h
      dsimp only at h
      revert r;apply gT;exact lF fun _=>CZ.el (.inr rfl) [] H0 [.nils,.bool false] (AL.tupL (l:=[.nils,.bool false]) (l':=[.ints ([]:List Int),.bool false]) rfl ⟨AL.ints_nil,Ay,trivial⟩) (by kernel_rfl)
     | s1 Jy V9 QC=>
      intro h
      dsimp only at h
      revert r;apply gT;exact gn fun g1=>lF fun _=>CZ.e (.inr rfl) [4] (H0.g g1) (by kernel_rfl)
    ·cases h)))) (jt (jt (lF fun p=>el AD [2,3] [0,1] p [] H0 [.nils,.bool true] (AL.tupL (l:=[.nils,.bool true]) (l':=[.ints ([]:List Int),.bool true]) rfl ⟨AL.ints_nil,Ay,trivial⟩))))
 case l2 x10 CM o1=>
  intro m0 AC;refine rd AC fun m0 AC=>?_
  revert r;apply gO
  exact bi 11 (gi (jt (cn fun y1 Au=>jc (fq Au [oC [.msl 1 1 0 CM],oI o1,oC [.bool false],oC [.i 0]]) (cn fun y2 Cd=>fun p r h=>by
   refine gs AD [0,2,3,4,1] p (GZ (AY Tryz.f54) 16 [m0]) (AF 34 [(2,.ref 0 0),(3,.ref 1 0),(6,.ref 2 0),(8,.ints pos),(9,.i (pos.length:Int)),(10,.i x10),(16,.it 3)]) (zAl CM y1 o1) ?_;refine rx [.ret] 3 16 #[17] Bj 4 Cd (tC n pos x10) fun e he=>?_
   replace h:=C8 h;rcases h with ⟨I7,h⟩ | ⟨I7,h⟩
   ·rw [eq_of_beq I7] at he;cases he;revert h;cases y2.1 with
    | s0 EV WA QD=>
     intro h
     dsimp only at h
     revert r;apply gO;exact bi 31 (jt (jt (lF fun p=>el AD [2,3] [0,1] p [] H0 [.nils,.bool false] (AL.tupL (l:=[.nils,.bool false]) (l':=[.ints ([]:List Int),.bool false]) rfl ⟨AL.ints_nil,Ay,trivial⟩)))) (gw 32 (lG AD [0,4,1] (AJ _ _ · m0 AC)))
    | s1 Jy=>
     intro h
     dsimp only at h
     revert r;apply gO;exact bi 31 (jt (jt (lF fun p=>el AD [2,3] [0,1] p [] H0 [.nils,.bool false] (AL.tupL (l:=[.nils,.bool false]) (l':=[.ints ([]:List Int),.bool false]) rfl ⟨AL.ints_nil,Ay,trivial⟩)))) (gw 32 (lG AD [0,1] (AJ _ _ · m0 AC)))
   ·replace h:=C8 h;rcases h with ⟨I7,h⟩ | ⟨I7,h⟩
    ·rw [eq_of_beq I7] at he;cases he;refine Md ⟨rfl,?_⟩ _;revert h;cases y2.1 with
     | s0 EV WA QD=>
      intro h
      dsimp only at h
      revert r;apply gT;exact gn fun g1=>lF fun _=>CZ.e (.inr rfl) [4] (H0.g g1) (by kernel_rfl)
     | s1 Jy=>
      intro h
      dsimp only at h
      revert r;apply gT;exact lF fun _=>CZ.el (.inr rfl) [] H0 [.nils,.bool false] (AL.tupL (l:=[.nils,.bool false]) (l':=[.ints ([]:List Int),.bool false]) rfl ⟨AL.ints_nil,Ay,trivial⟩) (by kernel_rfl)
    ·cases h)))) (jt (jt (gn fun g0=>lF fun p=>ez AD [2,3] [0,1,2] p [1] (H0.g g0))))
theorem s8 {n:Nat}{pos:List Int}{r:(List Int)×Bool}(h:WY n pos=some r):EQ 54 [.ints pos] [] (.tup 2 (L1 [.ints r.1,.bool r.2])) [] true:=by
 refine ot Tryz.func54 fun B N=>?_
 revert r;apply gO;exact lN AD [0,1] ((tG B N pos n) _ _ · n Nat.le.refl)
end Go.Proofs.YtodinaconebmdaaGreatDoor
namespace Go.Proofs.YtodinaconebmdaaGreatDoor
open Go.RowKit
section
variable {q:AA} {pos:List Int}
theorem bH (x:Int):BitVec.ofInt 64 (IntKind.u64.wrap x)=BitVec.ofInt 64 x:=by
 apply BitVec.eq_of_toNat_eq;rw [zF4,zF4,IntKind.wrap_u64]
 congr 1
 omega
theorem sM (a:Int){s:Nat}(hs:s<63)(t:Nat):tb (IntKind.i64.wrap (bits .and .u64 (IntKind.u64.wrap a) (IntKind.u64.wrap (1*2 ^ s)))) t=(tb a t&&decide (s=t)):=by
 rw [Zz]
 have e:tb (bits .and .u64 (IntKind.u64.wrap a) (IntKind.u64.wrap (1*2 ^ s))) t=(BitVec.ofInt 64 (IntKind.u64.wrap a)&&& BitVec.ofInt 64 (IntKind.u64.wrap (1*2 ^ s))).getLsbD t:=by
  show (BitVec.ofInt 64 (IntKind.u64.wrap ((BitVec.ofInt 64 (IntKind.u64.wrap a)&&& BitVec.ofInt 64 (IntKind.u64.wrap (1*2 ^ s))).toNat:Int))).getLsbD t=_
  rw [bH,T9]
 rw [e,bH,bH,BitVec.getLsbD_and];have h2:=QT (show s<64 by omega) t;rw [Zz] at h2;have h2:(BitVec.ofInt 64 (1*2 ^ s)).getLsbD t=decide (s=t):=h2;rw [h2];rfl
def Lq (y:List Int)(j s:Nat):List Int:=y.set j (IntKind.i64.wrap (bits .and .u64 (IntKind.u64.wrap (y.getD j 0)) (IntKind.u64.wrap (1*2 ^ s))))
def H8 (y:List Int)(j s:Nat):List Int:=if BZ (Lq y j s) then List.replicate y.length 0 else Lq y j s
theorem om (hv:DG q=true){y:List Int}(hy:posOk q y=true){j s:Nat}(hj:j<y.length)(hs:s<q.symbols.toNat):(Lq y j s).length=y.length/\ ∀ l,l<y.length -> B4 ((Lq y j s).getD l 0)/\ ∀ t,tb ((Lq y j s).getD l 0) t=(tb (y.getD l 0) t&&(!decide (l=j)||decide (t=s))):=by
 obtain ⟨h1,h2⟩:=(LD hv).1 hy;obtain ⟨hc,nF,_⟩:=EF hv;unfold Lq;refine ⟨zCG,fun l hl=>?_⟩
 by_cases e:j=l
 ·subst e;rw [Lp hj];refine ⟨gL _,fun t=>?_⟩;rw [sM _ (by omega),zAU rfl,zCX,zFq]
  congr 1
  rw [decide_eq_decide];exact eq_comm
 ·rw [getD_set_ne e];refine ⟨(h2 l hl).in64 (by omega),fun t=>?_⟩;rw [zAI fun h=>e h.symm];simp
theorem gG (hv:DG q=true){y:List Int}(hy:posOk q y=true):posOk q (List.replicate y.length 0)=true:=by
 obtain ⟨h1,_⟩:=(LD hv).1 hy;refine (LD hv).2 ⟨by rw [zB1];exact h1,fun j hj=>?_⟩
 have:(List.replicate y.length (0:Int)).getD j 0=0:=by
  rw [u8,zCe];split <;> rfl
 rw [this];exact ⟨zFZ _,Int.pow_pos (by decide)⟩
theorem zC1 (hv:DG q=true){y:List Int}(hy:posOk q y=true){j s:Nat}(hj:j<y.length)(hs:s<q.symbols.toNat):posOk q (H8 y j s)=true:=by
 obtain ⟨h1,h2⟩:=(LD hv).1 hy;obtain ⟨hc,nF,_⟩:=EF hv;obtain ⟨z1,z2⟩:=om hv hy hj hs;unfold H8;split
 ·exact gG hv hy
 ·refine (LD hv).2 ⟨by rw [z1];exact h1,fun l hl=>?_⟩;obtain ⟨e1,e2⟩:=z2 l (by omega);refine aA (by omega) e1 fun t ht _=>?_
  rw [e2,(h2 l (by omega)).hi ht];rfl
theorem zC6 (hF:EC q)(hv:DG q=true){y:List Int}(hy:posOk q y=true){j s:Nat}(hj:j<y.length)(hs:s<q.symbols.toNat){n:Nat}(hn:GE q+300<=n):Rj n q y j s=some (H8 y j s,0):=by
 obtain ⟨h1,h2⟩:=(LD hv).1 hy;obtain ⟨hc,nF,_⟩:=EF hv;have L:(1000000000000:Nat)=A3:=rfl;have lb:(256:Nat)<=LB:=by decide
 have sy:((q.symbols.toNat:Nat):Int)=q.symbols:=by omega
 have hpc:Ew n q y=some 0:=by
  rw [aq hF (by omega) (by omega) (by omega)];unfold C4;rw [zAA hv,zAA hy]
 unfold Rj eQ ZH fM;rw [hpc,zAB];simp only [zFe,zBy,zAP,zFd];rw [zAI (by omega),zAI (by omega),zAI (by omega),zAI (by omega)];simp only [bne_self_eq_false,zAC];rw [zAA ⟨⟨trivial,⟨trivial,trivial⟩,by rw [←L];omega⟩,⟨by omega,by omega⟩,hj⟩]
 have hw:XX n (IntKind.u64.wrap (y.getD j 0)) s=some (bits .and .u64 (IntKind.u64.wrap (y.getD j 0)) (IntKind.u64.wrap (1*2 ^ s))):=by
  unfold XX lu;rw [zAA ⟨by omega,by show (s:Int)<=((64:Nat):Int);omega⟩,zAP]
 rw [hw,zAB,zAA (by rw [zCG])]
 show ((Qq n (Lq y j s)).bind fun y3=>some (y3,(0:Int))).bind _=_
 have m9:(Lq y j s).length=y.length:=zCG;unfold H8
 generalize Lq y j s=z at m9 ⊢
 have hn:Qq n z=some (if BZ z then List.replicate y.length 0 else z):=by
  unfold Qq bM;rw [pd (by omega) (by omega),zAB];cases BZ z
  ·rfl
  ·rw [zAK,zAA ⟨rfl,by omega,by omega⟩,zAA (by simp),m9];rfl
 rw [hn];rfl
def E6:List Int -> Option (List Int)
 | []=>some []
 | x::l=>match Cn x 0 with
  | [s]=>(E6 l).map fun r=>(s:Int)::r
  | _=>none
theorem jS: ∀ {p g:List Int},E6 p=some g -> g.length=p.length
 | [],g,h=>by cases h;rfl
 | x::p,g,h=>by
  unfold E6 at h;split at h
  ·obtain ⟨r,hr,rfl⟩:=zFc.1 h;rw [zCl,zCl,jS hr]
  ·cases h
theorem tK {n:Nat}{x10:Int}: ∀ (l:List Nat),(∀ s∈l,s<16) -> CN (S9 n pos x10) (l.map fun (s:Nat)=>(s:Int)) (.s0 0)=some (match l with | []=>(.s0 0,0) | [s]=>(.s1 1 1 [(s:Int)],0) | _=>(.s0 2,1))
 | [],_=>rfl
 | s::l,h=>by
  have hs:=h s (by simp)
  have e1:S9 n pos x10 (s:Int) (.s0 0)=some (.s1 1 1 [(s:Int)],0):=by
   show S7 n pos x10 (s:Int) 0=_
   unfold S7;rw [zAA (by decide),zAI (by omega),zAC,zAI (by omega),zAC,zAA ⟨⟨rfl,rfl⟩,by simp,by simp [A3]⟩];rfl
  rw [zFg];simp only [CN,e1,zAB];cases l with
  | nil=>rfl
  | cons t l=>
   have e2:S9 n pos x10 (t:Int) (.s1 1 1 [(s:Int)])=some (.s0 2,1):=by
    show S6 n pos x10 (t:Int) 1 1 [(s:Int)]=_
    unfold S6;rw [zAA (by decide),zAU (by omega),zAK];rfl
   simp only [zFg,CN,e2,zAB];rfl
theorem tJ {n m:Nat}{x10:Int}{o:List Int}(ho:m=o.length)(hl:o.length<=300): ∀ (l:List Nat),(∀ s∈l,s<16) -> CN (S8 n pos x10) (l.map fun (s:Nat)=>(s:Int)) (.s0 m 0 o)=some (match l with | []=>(.s0 m 0 o,0) | [s]=>(.s0 (m+1) 1 (o++[(s:Int)]),0) | _=>(.s1 2,1))
 | [],_=>rfl
 | s::l,h=>by
  have hs:=h s (by simp);have L:(1000000000000:Nat)=A3:=rfl
  have e1:S8 n pos x10 (s:Int) (.s0 m 0 o)=some (.s0 (m+1) 1 (o++[(s:Int)]),0):=by
   show N9 n pos x10 (s:Int) m 0 o=_
   unfold N9;rw [zAA (by decide),zAI (by omega),zAC,zAI (by omega),zAC,zAA ⟨⟨rfl,rfl⟩,⟨rfl,ho⟩,by rw [←L];simp;omega⟩,ho];rfl
  rw [zFg];simp only [CN,e1,zAB];cases l with
  | nil=>rfl
  | cons t l=>
   have e2:S8 n pos x10 (t:Int) (.s0 (m+1) 1 (o++[(s:Int)]))=some (.s1 2,1):=by
    show N9 n pos x10 (t:Int) (m+1) 1 (o++[(s:Int)])=_
    unfold N9;rw [zAA (by decide),zAU (by omega),zAK];rfl
   simp only [zFg,CN,e2,zAB];rfl
def JE (o:List Int):Option (List Int) -> List Int×Bool
 | some r=>(o++r,true)
 | none=>([],false)
theorem qn {x:Int}(h:Sm 16 x):Ev (fun n=>Lx n (IntKind.u64.wrap x)) ((Cn x 0).map fun (s:Nat)=>(s:Int)):=by
 have e:IntKind.u64.wrap x=x:=by
  show x % 18446744073709551616=x
  have:=h.2;exact Int.emod_eq_of_lt h.1 (by omega)
 rw [e];exact fu h 16 0 (by omega)
theorem jk {x:Int}{s:Nat}(h:s∈Cn x 0):s<16:=(UH.1 h).1
theorem jP (hp: ∀ j,j<pos.length -> Sm 16 (pos.getD j 0))(hl:pos.length<=256): ∀ (k j:Nat) (o:List Int),j+k=pos.length -> o.length<=256 -> o.length+k<=256 -> Ev (fun n=>Gk pos n (.l2 (j:Int) o.length o)) (JE o (E6 (pos.drop j)))
 | 0,j,o,e,ho,_=>by
  have:pos.drop j= []:=zCc (by omega);rw [this];refine Ev.one fun n=>?_
  show N7 n (Gk pos n) pos (j:Int) o.length o=_
  unfold N7;rw [zAI (by omega),zAC,zAA rfl];simp [E6,JE]
 | k+1,j,o,e,ho,hk=>by
  have hj:j<pos.length:=by omega
  have hd:pos.drop j=pos.getD j 0::pos.drop (j+1):=by
   rw [zBw hj,u8,zAE hj];rfl
  have hA:=qn (hp j hj);have lb:AH ((j:Int)+1):=Aw.2 ⟨by omega,by omega⟩;have ih:=fun s:Nat=>jP hp hl k (j+1) (o++[(s:Int)]) (by omega) (by simp;omega) (by simp;omega)
  have start: ∀ n,Gk pos (n+1) (.l2 (j:Int) o.length o)=N7 n (Gk pos n) pos (j:Int) o.length o:=fun _=>rfl
  obtain ⟨N,hN⟩:=hA;have hN: ∀ n,N<=n -> Lx n (IntKind.u64.wrap (pos.getD j 0))=some ((Cn (pos.getD j 0) 0).map fun (s:Nat)=>(s:Int)):=hN;have hf:=fun n=>tJ (n:=n) (pos:=pos) (x10:=(j:Int)) (o:=o) rfl (by omega) (Cn (pos.getD j 0) 0) fun s hs=>jk hs
  rw [hd,E6];cases hs:Cn (pos.getD j 0) 0 with
  | nil=>
   refine Ev.oneN N fun n hn=>?_
   rw [start];unfold N7;rw [zAU (by omega),zAK,zAA ⟨by omega,by omega⟩,zAP,hN n hn,zAB,hf n,hs];rfl
  | cons s l=>
   cases l with
   | nil=>
    have g:BL (Gk pos) (.l2 (j:Int) o.length o) (.l2 ((j+1:Nat):Int) (o++[(s:Int)]).length (o++[(s:Int)])):=BL.oneN N fun n hn=>by
     rw [start];unfold N7;rw [zAU (by omega),zAK,zAA ⟨by omega,by omega⟩,zAP,hN n hn,zAB,hf n,hs];simp only [zAB,zGn,zAK];rw [show ((1:Int)==0)=false from rfl,zAC,zAA lb,zBe];rfl
    have:=g.ev (ih s);simp only;cases hr:E6 (pos.drop (j+1)) with
    | none=>rw [hr] at this;exact this
    | some r=>rw [hr] at this;simpa [JE] using this
   | cons t l=>
    refine Ev.oneN N fun n hn=>?_
    rw [start];unfold N7;rw [zAU (by omega),zAK,zAA ⟨by omega,by omega⟩,zAP,hN n hn,zAB,hf n,hs];rfl
theorem tH (hp: ∀ j,j<pos.length -> Sm 16 (pos.getD j 0))(hl:pos.length<=256):Ev (fun n=>WY n pos) (JE [] (E6 pos)):=by
 cases pos with
 | nil=>
  refine Ev.eq (g:=fun n=>Gk [] n (.l1 0)) (Ev.one fun n=>?_) fun n=>rfl
  show N8 n (Gk [] n) [] 0=_
  unfold N8;rfl
 | cons x p=>
  have hx:=hp 0 (by simp);have hx:Sm 16 x:=by simpa using hx
  obtain ⟨N,hN⟩:=qn hx;have hN: ∀ n,N<=n -> Lx n (IntKind.u64.wrap x)=some ((Cn x 0).map fun (s:Nat)=>(s:Int)):=hN;have hf:=fun n=>tK (n:=n) (pos:=x::p) (x10:=0) (Cn x 0) fun s hs=>jk hs
  refine Ev.eq (g:=fun n=>Gk (x::p) n (.l1 0)) ?_ fun n=>rfl
  have start: ∀ n,Gk (x::p) (n+1) (.l1 0)=N8 n (Gk (x::p) n) (x::p) 0:=fun _=>rfl
  have lt:decide ((0:Int)<(((x::p).length:Nat):Int))=true:=zAU (by simp);have gd:(x::p).getD (0:Int).toNat 0=x:=rfl;rw [E6];cases hs:Cn x 0 with
  | nil=>
   refine Ev.oneN N fun n hn=>?_
   rw [start];unfold N8;rw [lt,zAK,zAA ⟨by omega,by simp⟩,gd,hN n hn,zAB,hf n,hs];rfl
  | cons s l=>
   cases l with
   | nil=>
    have g:BL (Gk (x::p)) (.l1 0) (.l2 ((1:Nat):Int) [(s:Int)].length [(s:Int)]):=BL.oneN N fun n hn=>by
     rw [start];unfold N8;rw [lt,zAK,zAA ⟨by omega,by simp⟩,gd,hN n hn,zAB,hf n,hs];simp only [zAB,zGn,zAK];rw [show ((1:Int)==0)=false from rfl,zAC,zAA (by decide)];rfl
    have:=g.ev (jP hp hl p.length 1 [(s:Int)] (by simp;omega) (by simp) (by simp at hl ⊢;omega));simp only [List.drop_one,List.tail_cons] at this;simp only;cases hr:E6 p with
    | none=>rw [hr] at this;exact this
    | some r=>rw [hr] at this;simpa [JE] using this
   | cons t l=>
    refine Ev.oneN N fun n hn=>?_
    rw [start];unfold N8;rw [lt,zAK,zAA ⟨by omega,by simp⟩,gd,hN n hn,zAB,hf n,hs];rfl
end
def pan (v:Value):List PanicEntry:=[{ v:=v,recovered:=false }]
section
variable {P:Program} {Γ:Aj}
def MT (K:Nat)(h:DH)(ρ:List AE)(b:Nat):Prop:=∃ k o p,K<=k/\ h[k]? =some (some o)/\ ρ[k]? =some p/\ p.foot b
theorem MO.split {h:DH}{ρ:List AE}(K:Nat)(b:Nat):MO h ρ b↔MO (h.take K) (ρ.take K) b∨MT K h ρ b:=by
 constructor
 ·rintro ⟨k,o,p,h1,h2,h3⟩;rcases zCb k K with hk | hk
  ·exact .inl ⟨k,o,p,by rw [zFW,zAA hk];exact h1,by rw [zFW,zAA hk];exact h2,h3⟩
  ·exact .inr ⟨k,o,p,hk,h1,h2,h3⟩
 ·rintro (⟨k,o,p,h1,h2,h3⟩ | ⟨k,o,p,_,h1,h2,h3⟩)
  ·rw [zFW] at h1 h2;split at h1
   ·rename_i hk;rw [zAA hk] at h2;exact ⟨k,o,p,h1,h2,h3⟩
   ·cases h1
  ·exact ⟨k,o,p,h1,h2,h3⟩
def Ry (K:Nat):Option DO -> Bool
 | some (.cells l)=>l.all (Ck K)
 | some (.ro l)=>l.all (Ck K)
 | _=>true
theorem Ag.take {N:Nat -> Prop}{h:DH}{ρ:List AE}{w:World}(H:Ag P Γ N h ρ w){K:Nat}(hK:K<=h.length)(hc:(h.take K).all (Ry K)=true):Ag P Γ (fun b=>N b∨MT K h ρ b) (h.take K) (ρ.take K) w/\ ∀ b,MS (fun b=>N b∨MT K h ρ b) (h.take K) (ρ.take K) b↔MS N h ρ b:=by
 have hM: ∀ b,MS (fun b=>N b∨MT K h ρ b) (h.take K) (ρ.take K) b↔MS N h ρ b:=fun b=>by
  constructor
  ·rintro ((x | x) | x)
   ·exact .inl x
   ·exact .inr ((MO.split K b).2 (.inr x))
   ·exact .inr ((MO.split K b).2 (.inl x))
  ·rintro (x | x)
   ·exact .inl (.inl x)
   ·exact ((MO.split K b).1 x).elim .inr fun y=>.inl (.inr y)
 have gt: ∀ {α:Type} {l:List α} {k:Nat} {x:α},(l.take K)[k]? =some x -> k<K/\ l[k]? =some x:=fun {α l k x} hx=>by
  rw [zFW] at hx;split at hx
  ·rename_i hk;exact ⟨hk,hx⟩
  ·cases hx
 refine ⟨⟨by simp [H.len],fun k o hk=>?_,fun k o p b h1 h2 h3=>?_,fun i i' o o' p p' b AR g1 g2 g3 g4 g5 g6=>H.dis i i' o o' p p' b AR (gt g1).2 (gt g2).2 (gt g3).2 (gt g4).2 g5 g6,fun b hb=>?_,H.gi⟩,hM⟩
 ·obtain ⟨Fx,Cz⟩:=gt hk;obtain ⟨p,hp,ho⟩:=H.obj k o Cz;refine ⟨p,by rw [zFW,zAA Fx];exact hp,?_⟩;have e:MS (fun b=>N b∨MT K h ρ b) (h.take K) (ρ.take K)=MS N h ρ:=funext fun b=>propext (hM b)
  rw [e];cases o with
  | cells l=>
   have BF:l.all (Ck K)=true:=zAX.1 hc _ (zB9 hk);exact AQ.out ho rfl fun j u hj hu=>AI.take _ (zAX.1 BF _ (by simp [u8,hj])) hu
  | ints l=>exact ho
  | bools l=>exact ho
  | arr m n f=>exact ho
  | iter encs=>exact ho
  | ro l=>
   obtain ⟨r1,r2,r3⟩:=ho;have BF:l.all (Ck K)=true:=zAX.1 hc _ (zB9 hk);exact ⟨r1,r2,AQ.out r3 rfl fun j u hj hu=>AI.take _ (zAX.1 BF _ (by simp [u8,hj])) hu⟩
  | mo x=>exact ho
 ·obtain ⟨Fx,Lo⟩:=gt h1;obtain ⟨c1,c2,c3⟩:=H.cel k o p b Lo (gt h2).2 h3;refine ⟨c1,?_,c3⟩;rintro (hn | ⟨k',o',p',q1,q2,q3,q4⟩)
  ·exact c2 hn
  ·exact H.dis k k' o o' p p' b (by omega) Lo q2 (gt h2).2 q3 h3 q4
 ·rcases hb with hb | ⟨k',o',p',q1,q2,q3,q4⟩
  ·exact H.nlt b hb
  ·obtain ⟨c1,_,c,t,z,c3⟩:=H.cel k' o' p' b q2 q3 q4;exact ⟨(zAL.1 c3).1,c1⟩
def Ko (fr:List DV):List DV:=fr.map fun _=>.any
theorem qk {M:Nat -> Prop}{w:World}{ρ:List AE}{fr:List DV}{t:Array Value}(h:fr.length=t.size):A0 M w ρ (Ko fr) t:=⟨by simp [Ko,h],fun j hj=>by
 have:(Ko fr).getD j .any= .any:=by
  unfold Ko;rw [u8,zBt];cases fr[j]? <;> rfl
 rw [this];trivial⟩
def PO {L:Nat}(Q:QY P Γ L):Exit -> Act -> World -> Prop
 | .panic c,a,w=>∃ fr h ρ N Y,Q (.panic c) ⟨Ko fr,h⟩ Y/\ fr.length=a.tmps.size/\ Ag P Γ N h ρ w/\ Y.I N h ρ w/\ a.defers= []
 | e,a,w=>∃ S ρ N Y,QE Q e S Y/\ AP P Γ N S ρ a w/\ Y.I N S.h ρ w/\ L4 none a.defers w/\ Bd Fence.wide none w
theorem PO.le {L:Nat}{Q:QY P Γ L}{e:Exit}{a:Act}{w:World}(h:PO Q e a w): ∃ S ρ N Y,QE Q e S Y/\ AP P Γ N S ρ a w/\ Y.I N S.h ρ w/\ L4 none a.defers w/\ Bd Fence.wide none w:=by
 cases e with
 | panic c=>
  obtain ⟨fr,h,ρ,N,Y,h1,h2,h3,h4,h5⟩:=h;exact ⟨⟨Ko fr,h⟩,ρ,N,Y,h1,⟨h3,qk h2⟩,h4,h5,Bd.none⟩
 | _=>exact h
def De (P:Program)(Γ:Aj){L:Nat}(Y:BB P Γ L)(ops:Array Oper)(l:List Nat)(S:St)(Q:QY P Γ L):Prop:= ∀ N ρ a w,AP P Γ N S ρ a w -> Y.I N S.h ρ w -> a.defers= [] -> wpListIn Fence.wide 0 P ops (PO Q) (CB ops l) a w
theorem Qk {ops:Array Oper}: ∀ (l l':List Nat),CB ops (l++l')=CB ops l++CB ops l'
 | [],_=>rfl
 | i::l,l'=>by
  simp only [List.cons_append,CB];split
  ·rw [Qk l l'];rfl
  ·exact Qk l l'
theorem lD {ops:Array Oper}:CB ops (List.range ops.size)=ops.toList:=by
 have go: ∀ (k:Nat),k<=ops.size -> CB ops (List.range k)=ops.toList.take k:=by
  intro k
  induction k with
  | zero=>intro _;rfl
  | succ k ih=>
   intro hk;rw [List.range_succ,Qk,ih (by omega),List.take_add_one]
   congr 1
   simp [CB,zCV (show k<ops.size by omega)]
 rw [go _ (zBl _),List.take_of_length_le (by simp)]
section
variable {L:Nat} {C:Df P} {i:Nat} {ρ0:List AE} {Q:QY P Γ L} {ops:Array Oper} {S:St} {Aa:BI} {vs:List Prop}
theorem De.done {Y:BB P Γ L}{l:List Nat}{S':St}{B6:BI}(hF:Dg Fence.wide P)(As:Cu ops=true)(h:Dy P Γ ops (CB ops l) S Aa=some (S',vs,B6))(hv:BY vs)(hk:Q .normal S' Y):De P Γ Y ops l S Q:=fun N ρ a w R y m=>
 Ki hF As _ (OT l) R h hv fun ρ' a' w' R' st Db=>Tr.done R y m Bd.none hk R' st.st (fun k p _ hp=>st.pl k p hp) Db
theorem Tr.ofO {Y:BB P Γ L}{id:Nat}(h:De P Γ Y ops (List.range ops.size) S Q):Tr P Γ Fence.wide none L Y (.region id ops false) S Q:=fun N ρ a w R y m _=>zGE (zFw (by
 have:=h N ρ a w R y m;rw [lD] at this;exact this)) fun _ _ _=>PO.le
def Vc (P:Program)(Γ:Aj)(ops:Array Oper)(l:List Nat)(p:Nat)(S:St)(Aa:BI):Option (FuncId×List DV×Option Tmp×St×List Prop×BI):=match Dy P Γ ops (CB ops l) S Aa with
 | none=>none
 | some (S1,vs,GM)=>match ops[p]? with
  | none=>none
  | some o=>match J2 ops S1 o with
   | some true=>match o.op with
    | .call c=>match c.callee with
     | .value f=>match AT S1.fr f with
      | .fn g m cap=>some (g,c.args.toList.map (AT S1.fr)++(List.range m).map cap,o.dst,S1,vs,GM)
      | _=>none
     | _=>none
    | _=>none
   | _=>none
def Zb (P:Program)(Γ:Aj)(ops:Array Oper)(l:List Nat)(p:Nat)(S:St)(Aa:BI):Option (List DV×Nat×Option Tmp×St×List Prop×BI):=match Dy P Γ ops (CB ops l) S Aa with
 | none=>none
 | some (S1,vs,GM)=>match ops[p]? with
  | none=>none
  | some o=>match J2 ops S1 o with
   | some true=>match o.op with
    | .call c=>match c.callee with
     | .value f=>match AT S1.fr f with
      | .yl l=>match (c.args.toList.map (AT S1.fr)).all Fb with
       | true=>some (c.args.toList.map (AT S1.fr),l,o.dst,S1,vs,GM)
       | false=>none
      | _=>none
     | _=>none
    | _=>none
   | _=>none
end
end
theorem AI.pl {M M':Nat -> Prop}{w:World}(hM: ∀ b,M' b -> M b){ρ ρ':List AE}(hρ: ∀ (k:Nat) (p:AE),ρ[k]? =some p -> ∃ ft,ρ'[k]? =some { p with foot:=ft }): ∀ (d:DV) {v:Value},AI M w d ρ v -> AI M' w d ρ' v:=by
 have low: ∀ (d:DV) {v:Value},AI M w d [] v -> AI M' w d [] v:=fun d v h=>h.out d ⟨fun _ _ _ _=>rfl,fun b hb=>.inl (hM b hb),fun k p hk=>by simp at hk⟩
 intro d
 induction d with
 | any=>intro v _;trivial
 | nils=>intro v h;exact h
 | int k n=>intro v h;exact h
 | bool b=>intro v h;exact h
 | str s=>intro v h;exact h
 | ints l=>intro v h;exact low (.ints l) h
 | bools l=>intro v h;exact low (.bools l) h
 | sl m n f _=>intro v h;exact low (.sl m n f) h
 | fp m f _=>intro v h;exact low (.fp m f) h
 | agg m f ih=>rintro v ⟨cs,e,hs,h⟩;exact ⟨cs,e,hs,fun j hj=>let ⟨u,h1,h2⟩:=h j hj;⟨u,h1,ih j h2⟩⟩
 | tup m f ih=>rintro v ⟨cs,e,hs,h⟩;exact ⟨cs,e,hs,fun j hj=>let ⟨u,h1,h2⟩:=h j hj;⟨u,h1,ih j h2⟩⟩
 | fn g m c ih=>rintro v ⟨cs,e,hs,h⟩;exact ⟨cs,e,hs,fun j hj=>let ⟨u,h1,h2⟩:=h j hj;⟨u,h1,ih j h2⟩⟩
 | ref k j=>rintro v ⟨p,hp,e⟩;obtain ⟨ft,h⟩:=hρ k p hp;exact ⟨_,h,e⟩
 | msl k m off n=>rintro v ⟨p,cap,hp,r⟩;obtain ⟨ft,h⟩:=hρ k p hp;exact ⟨_,cap,h,r⟩
 | mp k m i j=>rintro v ⟨p,hp,e⟩;obtain ⟨ft,h⟩:=hρ k p hp;exact ⟨_,h,e⟩
 | it k=>rintro v ⟨p,hp,e⟩;obtain ⟨ft,h⟩:=hρ k p hp;exact ⟨_,h,e⟩
 | yl l=>intro v h;exact h
 | cst u=>intro v h;exact h
 | mri k i=>rintro v ⟨p,vs,hp,r⟩;obtain ⟨ft,h⟩:=hρ k p hp;exact ⟨_,vs,h,r⟩
 | mse k m off n=>rintro v ⟨p,a,cap,hp,r⟩;obtain ⟨ft,h⟩:=hρ k p hp;exact ⟨_,a,cap,h,r⟩
theorem At.ro {L k:Nat}{S:St}{l:List DV}(hk:S.h[k]? =some (some (.cells l)))(hL:L<=k):At L S ⟨S.fr,S.h.set k (some (.ro l))⟩:=fun P Γ N ρ a w R=>by
 obtain ⟨p,hp,hr⟩:=R.hr.obj k _ hk;have hr:AQ w p l.length _:=hr;obtain ⟨nt,PG⟩:=hr;have Bn:k<ρ.length:=(zAW.1 hp).1;have hkh:k<S.h.length:=(zAW.1 hk).1
 let p':AE:={ p with foot:=fun _=>False }
 have Q8: ∀ (i:Nat) (q:AE),(ρ.set k p')[i]? =some q -> (i=k/\ q=p')∨(i≠k/\ ρ[i]? =some q):=fun i q h=>by
  rw [zB8] at h;split at h
  ·rename_i e;exact .inl ⟨e.symm,(zAV h).symm⟩
  ·rename_i e;exact .inr ⟨fun h=>e h.symm,h⟩
 have HG: ∀ (i:Nat) (q:AE),i≠k -> ρ[i]? =some q -> (ρ.set k p')[i]? =some q:=fun i q hi h=>by rw [zB8,zAY (fun e=>hi e.symm)];exact h
 have AJ:(ρ.set k p')[k]? =some p':=by rw [zB8,zAA rfl,zAA Bn]
 have EM: ∀ (i:Nat) (q:AE),ρ[i]? =some q -> ∃ ft,(ρ.set k p')[i]? =some { q with foot:=ft }:=fun i q h=>by
  by_cases e:i=k
  ·subst e;rw [hp] at h;cases h;exact ⟨_,AJ⟩
  ·exact ⟨q.foot,HG i q e h⟩
 have DN: ∀ (i:Nat) (o:DO),(S.h.set k (some (.ro l)))[i]? =some (some o) -> (i=k/\ o= .ro l)∨(i≠k/\ S.h[i]? =some (some o)):=fun i o h=>by
  rw [zB8] at h;split at h
  ·rename_i e;exact .inl ⟨e.symm,(zAV (zAV h)).symm⟩
  ·rename_i e;exact .inr ⟨fun h=>e h.symm,h⟩
 have Kh: ∀ b,MO (S.h.set k (some (.ro l))) (ρ.set k p') b -> MO S.h ρ b/\ b≠p.blk:=by
  rintro b ⟨i,o,q,h1,h2,h3⟩;rcases Q8 i q h2 with ⟨rfl,rfl⟩ | ⟨hi,h2⟩
  ·exact h3.elim
  ·rcases DN i o h1 with ⟨rfl,_⟩ | ⟨_,h1⟩
   ·exact absurd rfl hi
   ·exact ⟨⟨i,o,q,h1,h2,h3⟩,fun e=>R.hr.dis i k o _ q p b hi h1 hk h2 hp h3 (by rw [nt];exact e)⟩
 have hM: ∀ b,MS N (S.h.set k (some (.ro l))) (ρ.set k p') b -> MS N S.h ρ b:=fun b hb=>hb.imp id fun h=>(Kh b h).1
 have zCI:=R.hr.cel k _ p p.blk hk hp (by rw [nt]);have rep: ∀ (d:DV) {v:Value},AI (MS N S.h ρ) w d ρ v -> AI (MS N (S.h.set k (some (.ro l))) (ρ.set k p')) w d (ρ.set k p') v:=fun d v h=>h.pl hM EM
 refine ⟨ρ.set k p',⟨⟨by simp [R.hr.len],fun i o hi=>?_,fun i o q b g1 g2 g3=>?_,fun i i' o o' q q' b AR g1 g2 g3 g4 g5 g6=>?_,R.hr.nlt,R.hr.gi⟩,⟨R.fr.1,fun j hj=>rep _ (R.fr.2 j hj)⟩⟩,⟨AN.refl _ _,fun b hb=>.inl (Kh b hb).1⟩,fun i q hi hq=>HG i q (by omega) hq⟩
 ·rcases DN i o hi with ⟨rfl,rfl⟩ | ⟨AR,hi⟩
  ·refine ⟨p',AJ,rfl,fun hx=>hx.elim zCI.2.1 fun hx=>(Kh _ hx).2 rfl,?_⟩;exact AQ.out (R':=fun j u=>AI (MS N (S.h.set i (some (.ro l))) (ρ.set i p')) w (l.getD j .any) (ρ.set i p') u) (show AQ w { p' with foot:=fun b=>b=p'.blk } l.length _ from ⟨rfl,PG⟩) rfl fun j u _ hu=>rep _ hu
  ·obtain ⟨q,hq,ho⟩:=R.hr.obj i o hi;refine ⟨q,HG i q AR hq,?_⟩;cases o with
   | cells l'=>exact AQ.out ho rfl fun j u _ hu=>rep _ hu
   | ints l'=>exact AQ.out ho rfl fun j u _ hu=>hu
   | bools l'=>exact AQ.out ho rfl fun j u _ hu=>hu
   | arr m n f=>exact AQ.out ho rfl fun j u _ hu=>AI.out _ ⟨fun _ _ _ _=>rfl,fun b hb=>.inl (hM b hb),fun _ _ h=>by simp at h⟩ hu
   | iter encs=>
    obtain ⟨gf,lb,Rd,q1,q2,q3,q4⟩:=ho;exact ⟨gf,lb,Rd,q1,q2,fun b hb=>⟨fun hm=>(q3 b hb).1 (hM b hm),(q3 b hb).2⟩,q4⟩
   | ro l'=>
    obtain ⟨r1,r2,r3⟩:=ho;exact ⟨r1,fun hm=>r2 (hM _ hm),AQ.out r3 rfl fun j u _ hu=>rep _ hu⟩
   | mo x=>exact ho
 ·rcases Q8 i q g2 with ⟨rfl,rfl⟩ | ⟨hi,g2⟩
  ·exact g3.elim
  ·rcases DN i o g1 with ⟨rfl,_⟩ | ⟨_,g1⟩
   ·exact absurd rfl hi
   ·exact R.hr.cel i o q b g1 g2 g3
 ·rcases Q8 i q g3 with ⟨rfl,rfl⟩ | ⟨hi,g3⟩
  ·exact g5.elim
  ·rcases Q8 i' q' g4 with ⟨rfl,rfl⟩ | ⟨A8,g4⟩
   ·exact g6.elim
   ·rcases DN i o g1 with ⟨rfl,_⟩ | ⟨_,g1⟩
    ·exact absurd rfl hi
    ·rcases DN i' o' g2 with ⟨rfl,_⟩ | ⟨_,g2⟩
     ·exact absurd rfl A8
     ·exact R.hr.dis i i' o o' q q' b AR g1 g2 g3 g4 g5 g6
theorem pN {h1 h:DH}(hS:h1.take h.length=h):h1=h++h1.drop h.length:=by
 conv=>lhs;rw [←zHG h.length h1,hS]
section
variable {L:Nat} {k K:List KI} {S:St} {ops:Array Oper}
 {c:List (DV×DH×Bool)} {o:List (Nat×DV)} {z:List (Nat×Fz)} {v:List Prop} {fr:List DV} {h h1:DH} {l l1 l2:List Nat} {p:Nat} {dst:Option Tmp}
theorem OW {Y:BB Tryz.prog GG L}{Q:QY Tryz.prog GG L}{e:List PanicEntry}(h:Q (.panic e) S Y): ∀ (k:List KI),A6 Tryz.prog GG Fence.wide none L Q k (.panic e) S Y
 | []=>h
 | .blk _::k=>OW h k
 | .code _::k=>OW h k
 | .lend _::k=>OW h k
 | .scp::k=>OW h k
 | .loopN _ _::k=>OW h k
def ar (L:Nat)(h:DH):DH:=(List.range L).map fun k=>Tg (List.range L) (h.getD k none)
def XT (live:List Nat)(r:St×List Prop×BI):List DV×DH×List Prop:=(forget live r.1.fr,r.1.h,r.2.1)
theorem lm {live:List Nat}{x:Option (St×List Prop×BI)}(h:x.map (XT live)=some (fr,h1,v)): ∃ f Aa,x=some (⟨f,h1⟩,v,Aa)/\ fr=forget live f:=by
 cases x with
 | none=>cases h
 | some q=>
  obtain ⟨⟨f,g⟩,w,Aa⟩:=q;simp only [zCA,XT,zCW,zDU] at h;obtain ⟨rfl,rfl,rfl⟩:=h;exact ⟨f,Aa,rfl,rfl⟩
theorem De.weaken {Y:BB Tryz.prog GG L}{Q:QY Tryz.prog GG L}{S':St}(hS:At L S S')(hk:De Tryz.prog GG Y ops l S' Q):De Tryz.prog GG Y ops l S Q:=fun N ρ a w R y m=>by
 obtain ⟨ρ1,R1,s1,k1⟩:=hS Tryz.prog GG N ρ a w R;exact hk N ρ1 a w R1 (Y.st y R.hr R1.hr s1 k1) m
theorem Wc {live:List Nat}{f:List DV}{d:DV}(e0:fr=forget live f):At L ⟨CV f dst d,h⟩ ⟨CV fr dst d,h⟩:=by
 subst e0;cases dst with
 | none=>exact At.forget live f h
 | some t=>
  refine At.fr (by simp [CV,VH]) fun j hj=>?_
  have hj:j<f.length:=by simpa [CV] using hj
  show AL ((f.set t d).getD j .any) (((forget live f).set t d).getD j .any)
  by_cases e:t=j
  ·subst e;have e1:(f.set t d).getD t .any=d:=by simp [hj]
   have e2:((forget live f).set t d).getD t .any=d:=by simp [VH,hj]
   rw [e1,e2];exact AL.refl _
  ·have e1:(f.set t d).getD j .any=f.getD j .any:=by simp only [u8,zB8,zAY e]
   have e2:((forget live f).set t d).getD j .any=(forget live f).getD j .any:=by simp only [u8,zB8,zAY e]
   rw [e1,e2,eO live f hj];split
   ·exact AL.refl _
   ·exact AL.any _
def U0:List KI -> Bool
 | .code _::_=>true
 | .blk _::k=>U0 k
 | .scp::k=>U0 k
 | .loopN _ _::_=>true
 | _=>false
theorem An.leH {F:Fence}{B:Option Nat}{Y:BB Tryz.prog GG L}{Q:QY Tryz.prog GG L}{S':St}(hS:At L S S'): ∀ {k:List KI},U0 k=true -> An Tryz.prog GG F B L Y Q k S' -> An Tryz.prog GG F B L Y Q k S
 | .code _::_,_,h=>Tr.weaken hS h
 | .blk _::k,e,h=>An.leH (k:=k) hS e h
 | .scp::k,e,h=>An.leH (k:=k) hS e h
 | .loopN 0 _::_,_,h=>h.elim
 | .loopN (_+1) _::_,_,h=>Tr.weaken hS h
 | .lend _::_,e,_=>by cases e
 | [],e,_=>by cases e
def XS (live:List Nat)(r:FuncId×List DV×Option Tmp×St×List Prop×BI):FuncId×List DV×Option Tmp×List DV×DH×List Prop:=(r.1,r.2.1,r.2.2.1,forget live r.2.2.2.1.fr,r.2.2.2.1.h,r.2.2.2.2.1)
theorem ll {live:List Nat}{x:Option (FuncId×List DV×Option Tmp×St×List Prop×BI)}{g:FuncId}{ds:List DV}(h:x.map (XS live)=some (g,ds,dst,fr,h1,v)): ∃ f Aa,x=some (g,ds,dst,⟨f,h1⟩,v,Aa)/\ fr=forget live f:=by
 cases x with
 | none=>cases h
 | some q=>
  obtain ⟨g,ds,dst,⟨f,g'⟩,w,Aa⟩:=q;simp only [zCA,XS,zCW,zDU] at h;obtain ⟨rfl,rfl,rfl,rfl,rfl,rfl⟩:=h;exact ⟨f,Aa,rfl,rfl⟩
def ax (live:List Nat)(r:List DV×Nat×Option Tmp×St×List Prop×BI):List DV×Nat×Option Tmp×List DV×DH×List Prop:=(r.1,r.2.1,r.2.2.1,forget live r.2.2.2.1.fr,r.2.2.2.1.h,r.2.2.2.2.1)
theorem xJ {live:List Nat}{x:Option (List DV×Nat×Option Tmp×St×List Prop×BI)}{g:List DV}{ds:Nat}(h:x.map (ax live)=some (g,ds,dst,fr,h1,v)): ∃ f Aa,x=some (g,ds,dst,⟨f,h1⟩,v,Aa)/\ fr=forget live f:=by
 cases x with
 | none=>cases h
 | some q=>
  obtain ⟨g,ds,dst,⟨f,g'⟩,w,Aa⟩:=q;simp only [zCA,ax,zCW,zDU] at h;obtain ⟨rfl,rfl,rfl,rfl,rfl,rfl⟩:=h;exact ⟨f,Aa,rfl,rfl⟩
end
def Wq:List Nat -> DH -> Option DH
 | [],h=>some h
 | k::ks,h=>match h.getD k none with
  | some (.cells l)=>Wq ks (h.set k (some (.ro l)))
  | _=>none
theorem At.ros {L:Nat}{fr:List DV}: ∀ (ks:List Nat) {h h':DH},Wq ks h=some h' -> (ks.all fun k=>Nat.ble L k)=true -> At L ⟨fr,h⟩ ⟨fr,h'⟩
 | [],h,h',e,_=>by cases e;exact At.refl _ _
 | k::ks,h,h',e,hk=>by
  simp only [zGY,zAO] at hk;simp only [Wq] at e;split at e
  ·rename_i l hg;exact (At.ro (S:=⟨fr,h⟩) (getD_some hg) (zCo hk.1)).trans (At.ros ks e hk.2)
  ·cases e
theorem rH {L:Nat}{Y:BB Tryz.prog GG L}{Q:QY Tryz.prog GG L}{K:List KI}{F:Fence}{B:Option Nat}{fr:List DV}{h:DH}(ks:List Nat)(h':DH)(hk:An Tryz.prog GG F B L Y Q K ⟨fr,h'⟩)(e:Wq ks h=some h':=by kernel_rfl)(hL:(ks.all fun k=>Nat.ble L k)=true:=by kernel_rfl)(hc:If K=true:=by kernel_rfl):An Tryz.prog GG F B L Y Q K ⟨fr,h⟩:=
 BU.le (At.ros ks e hL) hc hk
abbrev zGz:=@List.take_left'
theorem YV.le {x y:List DV}(hl:I3 x y){R:Nat -> Prop}{W:World}{args:Array Value}(h:YV x R W args):YV y R W args:=by
 obtain ⟨h1,h2⟩:=SL hl;exact ⟨h1▸h.1,fun j hj=>h2 j (h1▸hj) _ _ _ _ (h.2 j (h1▸hj))⟩
inductive Ys where
 | go (i:Nat)
 | stop
 | pan (c:List PanicEntry)
def YsY (j:Nat):Ys -> Ending -> Prop
 | .go k,e=>k=j/\ e= .returned (.bool true)
 | .stop,e=>e= .returned (.bool false)
 | .pan c,e=>e= .panicked c
def P0 (tD:Bool -> DV)(j:Nat)(s:Ys)(e:Ending)(M:Nat -> Prop)(w:World)(ρ:List AE):Prop:=match s with
 | .go k=>k=j/\ ∃ v,e= .returned v/\ AI M w (tD true) ρ v
 | .stop=>∃ v,e= .returned v/\ AI M w (tD false) ρ v
 | .pan c=>e= .panicked c
theorem P0.out {tD:Bool -> DV}{j:Nat}{s:Ys}{e:Ending}{M M':Nat -> Prop}{w:World}{ρ ρ':List AE}(H:BH M w ρ M' w ρ')(h:P0 tD j s e M w ρ):P0 tD j s e M' w ρ':=by
 cases s with
 | go k=>obtain ⟨h0,v,h1,h2⟩:=h;exact ⟨h0,v,h1,h2.out _ H⟩
 | stop=>obtain ⟨v,h1,h2⟩:=h;exact ⟨v,h1,h2.out _ H⟩
 | pan c=>exact h
structure D5 (P:Program) where
 l:Nat
 encs:List (List DV)
 J:Ys -> (Nat -> Prop) -> (Nat -> Prop) -> World -> Prop
 hJ: ∀ s,Ce (J s)
 hy: ∀ i x args G R W1,encs[i]? =some x -> YV x R W1 args -> J (.go i) G R W1 -> Dq G R W1 -> YieldAt Fence.wide 0 P l args W1 fun e W'=>
  AN (fun k=>¬ (G k∨R k)) W1 W'/\ ∃ s,YsY (i+1) s e/\ J s G R W'
def YW (P:Program)(Γ:Aj)(tD:Bool -> DV)(f:Nat)(ds:Nat -> List DV)(h:Nat -> DH)(ys:List (List DV)):Prop:= (∀ args W,(callFunc f args).run P W= .ok (.enter f args) W)/\ ∀ (C:D5 P),∀ i,(∃ rest,C.encs.drop i=ys++rest) -> ∀ N ρ args w G R,Ag P Γ N (h C.l) ρ w -> A0 (MS N (h C.l) ρ) w ρ (ds C.l) args -> C.J (.go i) G R w -> IY Γ N G R (h C.l) ρ w -> CallsIn Fence.wide 0 P f args w fun e w'=>∃ s N' ρ' G' R',Ag P Γ N' (h C.l) ρ' w'/\ C.J s G' R' w'/\ IY Γ N' G' R' (h C.l) ρ' w'/\ B0 (h C.l).length ρ ρ'/\ P0 tD (i+ys.length) s e (MS N' (h C.l) ρ') w' ρ'
section
variable {P:Program} {Γ:Aj}
def D5.part (C:D5 P)(O R1 G1:Nat -> Prop)(w:World)(hO: ∀ b,O b -> b<w.heap.size)(hR1: ∀ b,R1 b -> b<w.heap.size):D5 P where
 l:=C.l
 encs:=C.encs
 J:=fun s G R W=>C.J s (fun b=>G b∨O b) R W/\ AN (fun b=>¬ (O b∨R1 b)) w W/\ (∀ b,O b -> ¬ G b/\ ¬ R b)/\ (∀ b,R1 b -> R b)/\ (∀ b,G b -> G1 b∨w.heap.size<=b)/\ (∀ b,G b -> ¬ R b)
 hJ:=by
  rintro s G R G' R' A B ⟨h1,h2,h3,h4,h5,h6⟩ hu hg hr Eg hd AK;have hs:=h2.size;have Kg: ∀ b,O b -> b<A.heap.size:=fun b hb=>zBa (hO b hb) hs
  have M8: ∀ b,O b -> ¬ G' b/\ ¬ R' b:=fun b hb=>by
   have:=Kg b hb;exact ⟨fun hx=>(hg b hx).elim (h3 b hb).1 (by omega),fun hx=>(hr b hx).elim (h3 b hb).2 fun hx=>hx.elim (h3 b hb).1 (by omega)⟩
  refine ⟨C.hJ s _ R _ R' A B h1 (hu.mono fun _ _ h=>.inl h) (fun k hk=>hk.elim (fun h=>(hg k h).imp .inl id) fun h=>.inl (.inr h)) (fun k hk=>(hr k hk).imp id fun h=>h.imp .inl id) (fun k hk=>?_) (fun k hk=>hk.elim (hd k) fun h=>(M8 k h).2) (fun k hk=>?_),h2.comp hu fun i hi hx=>?_,M8,fun b hb=>?_,fun b hb=>?_,hd⟩
  ·rcases hk with (hk | hk) | hk
   ·exact (Eg k (.inl hk)).imp .inl id
   ·exact .inl (.inr hk)
   ·exact (Eg k (.inr hk)).imp .inl id
  ·rcases hk with (hk | hk) | hk
   ·exact AK k (.inl hk)
   ·exact zBa (Kg k hk) hu.size
   ·exact AK k (.inr hk)
  ·exact fun Mv=>Mv.elim (fun h=>(h3 i h).1 hx) fun h=>h6 i hx (h4 i h)
  ·refine (Eg b (.inr (h4 b hb))).resolve_left fun hx=>?_
   rcases hg b hx with h | h
   ·exact h6 b h (h4 b hb)
   ·have:=hR1 b hb;omega
  ·rcases hg b hb with h | h
   ·exact h5 b h
   ·exact .inr (zAa hs h)
 hy:=by
  rintro i x args G R W1 hx hE ⟨h1,h2,h3,h4,h5,h6⟩ hs
  obtain ⟨fn,tmps,Pv,body,hy,hR⟩:=C.hy i x args _ R W1 hx hE h1 ⟨fun k hk=>hk.elim (hs.dis k) fun h=>(h3 k h).2,fun k hk=>by
   rcases hk with (hk | hk) | hk
   ·exact hs.lt k (.inl hk)
   ·exact zBa (hO k hk) h2.size
   ·exact hs.lt k (.inr hk)⟩
  refine ⟨fn,tmps,Pv,body,hy,hR.mono ?_⟩;rintro e W' ⟨hu,hj⟩;obtain ⟨s,nH,hj⟩:=hj;exact ⟨hu.mono fun k _ h hx=>h (hx.imp .inl id),s,nH,hj,h2.comp hu fun i _ hx Mv=>hx (Mv.imp .inr (h4 i)),h3,h4,h5,h6⟩
theorem YW.call {tD:Bool -> DV}{f:Nat}{ds:Nat -> List DV}{h:Nat -> DH}{ys:List (List DV)}(H:YW P Γ tD f ds h ys){C:D5 P}{i:Nat}(hi: ∃ rest,C.encs.drop i=ys++rest){N G R:Nat -> Prop}{hh T:DH}{ρ:List AE}{w:World}{args:Array Value} 
 (e:hh=h C.l++T) (HR:Ag P Γ N hh ρ w) (hc:(h C.l).all (Ry (h C.l).length)=true) (hd:(ds C.l).all (Ck (h C.l).length)=true) (fa:A0 (MS N hh ρ) w ρ (ds C.l) args) (hj:C.J (.go i) G R w) (y:IY Γ N G R hh ρ w):
 CallsIn Fence.wide 0 P f args w fun e w'=>∃ s N2 ρ2 G2 R2,Ag P Γ N2 (h C.l++T) ρ2 w'/\ C.J s G2 R2 w'/\ IY Γ N2 G2 R2 (h C.l++T) ρ2 w'/\ B0 hh.length ρ ρ2/\ P0 tD (i+ys.length) s e (MS N2 (h C.l++T) ρ2) w' ρ2/\
  BH (MS N hh ρ) w ρ (MS N2 (h C.l++T) ρ2) w' ρ2/\ AN (fun b=>N b∨MO (h C.l) (ρ.take (h C.l).length) b∨w.heap.size<=b) w w':=by
 subst e;obtain ⟨K,Ln⟩: ∃ K,K=(h C.l).length:=⟨_,rfl⟩;have hK:(h C.l++T).take K=h C.l:=by rw [Ln,zGz];rfl
 have hKl:K<=(h C.l++T).length:=by rw [Ln,zBe];omega
 obtain ⟨EB,hM⟩:=HR.take hKl (by rw [hK,Ln];exact hc);rw [hK] at EB hM;obtain ⟨R1,z1,z2,z3,z4⟩:=IY.part (C.hJ (.go i)) hj y;have sp:=fun b=>MO.split (h:=h C.l++T) (ρ:=ρ) K b
 rw [hK] at sp;obtain ⟨O,Ll⟩: ∃ O,O=MT K (h C.l++T) ρ:=⟨_,rfl⟩;obtain ⟨G1,Ye⟩: ∃ G1,G1=MO (h C.l) (ρ.take K):=⟨_,rfl⟩;rw [←Ll] at EB hM;rw [←Ln,←Ye];have jL:(fun b=>G1 b∨O b)=MO (h C.l++T) ρ:=by rw [Ye,Ll];exact funext fun b=>propext (sp b).symm
 have H6: ∀ b,G1 b∨O b↔MO (h C.l++T) ρ b:=fun b=>iff_of_eq (congrFun jL b)
 have AK: ∀ b,MO (h C.l++T) ρ b -> b<w.heap.size:=fun b hb=>z2.sh.lt b (.inl hb)
 have RR: ∀ b,G1 b -> ¬ O b:=fun b h1 h2=>by
  rw [Ye] at h1;rw [Ll] at h2;obtain ⟨k,o,p,q1,q2,q3⟩:=h1;obtain ⟨k',o',p',g1,g2,g3,g4⟩:=h2;rw [zFW] at q2;split at q2
  ·rename_i hk;exact HR.dis k k' o o' p p' b (by omega) (by rw [zBc (by omega)];exact q1) g2 q2 g3 q3 g4
  ·cases q2
 have hNG: ∀ b,N b -> ¬ MO (h C.l++T) ρ b:=fun b hN=>((z2.n b).1 hN).2.1
 let C':D5 P:=C.part O R1 G1 w (fun b hb=>AK b ((H6 b).1 (.inr hb))) fun b hb=>z2.sh.lt b (.inr hb)
 have fa':A0 (MS (fun b=>N b∨O b) (h C.l) (ρ.take K)) w (ρ.take K) (ds C.l) args:=by
  have e:MS (fun b=>N b∨O b) (h C.l) (ρ.take K)=MS N (h C.l++T) ρ:=funext fun b=>propext (hM b)
  rw [e];exact fa.take (by rw [Ln];exact hd)
 refine (H.2 C' i hi (fun b=>N b∨O b) (ρ.take K) args w G1 R1 EB fa' ⟨by show C.J (.go i) (fun b=>G1 b∨O b) R1 w;rw [jL];exact z1,AN.refl _ _,fun b hb=>⟨fun hg=>RR b hg hb,z2.sh.dis b ((H6 b).1 (.inr hb))⟩,fun _ h=>h,fun _ h=>.inl h,fun b hb=>z2.sh.dis b ((H6 b).1 (.inl hb))⟩
  ⟨⟨fun b hb=>z2.sh.dis b ((H6 b).1 (.inl hb)),fun b hb=>hb.elim (fun h=>AK b ((H6 b).1 (.inl h))) fun h=>z2.sh.lt b (.inr h)⟩,z2.lo,fun b hb=>by rw [Ye];exact hb,fun b=>?_⟩).mono ?_
 ·constructor
  ·rintro (hb | hb)
   ·exact ⟨((z2.n b).1 hb).1,fun hg=>hNG b hb ((H6 b).1 (.inl hg)),((z2.n b).1 hb).2.2⟩
   ·exact ⟨AK b ((H6 b).1 (.inr hb)),fun hg=>RR b hg hb,z2.sh.dis b ((H6 b).1 (.inr hb))⟩
  ·rintro ⟨q1,q2,q3⟩
   by_cases ho:O b
   ·exact .inr ho
   ·exact .inl ((z2.n b).2 ⟨q1,fun hm=>((H6 b).2 hm).elim q2 ho,q3⟩)
 ·rintro e w' ⟨s,N',ρs,G',R',P7,⟨j1,j2,j3,j4,j5,j6⟩,y',kp,ho⟩;have Av:=j2.size;have dR:ρs.length=K:=by rw [P7.len,Ln];rfl
  have Af:ρ.length=K+T.length:=by rw [HR.len,zBe,Ln]
  have hN2: ∀ b,(b<w'.heap.size/\ ¬ (G' b∨O b)/\ ¬ R' b) -> N' b:=fun b ⟨q1,q2,q3⟩=>(y'.n b).2 ⟨q1,fun h=>q2 (.inl h),q3⟩
  have hON: ∀ b,O b -> N' b:=fun b hb=>(y'.n b).2 ⟨zBa (AK b ((H6 b).1 (.inr hb))) Av,(j3 b hb).1,(j3 b hb).2⟩
  have pl: ∀ (k:Nat) (p:AE),ρ[k]? =some p -> (ρs++ρ.drop K)[k]? =some p:=fun k p hp=>by
   rcases zCb k K with hk | hk
   ·rw [zBc (by omega)];exact kp k p (by show k<(h C.l).length;rw [←Ln];exact hk) (by rw [zFW,zAA hk];exact hp)
   ·rw [zBg (by omega),dR,zFh,show K+(k-K)=k by omega];exact hp
  have gl: ∀ {k:Nat} {p:AE},k<K -> (ρs++ρ.drop K)[k]? =some p -> ρs[k]? =some p:=fun {k p} hk hp=>by rw [zBc (by omega)] at hp;exact hp
  have gr: ∀ {k:Nat} {p:AE},K<=k -> (ρs++ρ.drop K)[k]? =some p -> ρ[k]? =some p:=fun {k p} hk hp=>by
   rw [zBg (by omega),dR,zFh,show K+(k-K)=k by omega] at hp;exact hp
  have ol: ∀ {k:Nat} {o:DO},k<K -> (h C.l++T)[k]? =some (some o) -> (h C.l)[k]? =some (some o):=fun {k o} hk ho=>by rw [zBc (by omega)] at ho;exact ho
  have KL: ∀ {k:Nat} {o:DO},K<=k -> (h C.l++T)[k]? =some (some o) -> (h C.l++T)[k]? =some (some o):=fun {k o} hk ho=>by
   rw [zBg (by omega)] at ho ⊢;exact ho
  have Kh: ∀ b,MO (h C.l++T) (ρs++ρ.drop K) b -> G' b∨O b:=by
   rintro b ⟨k,o,p,q1,q2,q3⟩;rcases zCb k K with hk | hk
   ·exact .inl (y'.own b ⟨k,o,p,ol hk q1,gl hk q2,q3⟩)
   ·exact .inr (by rw [Ll];exact ⟨k,o,p,hk,KL hk q1,gr hk q2,q3⟩)
  obtain ⟨N2,YZ⟩: ∃ N2:Nat -> Prop,N2=fun b=>b<w'.heap.size/\ ¬ (G' b∨O b)/\ ¬ R' b:=⟨_,rfl⟩
  have HB: ∀ b,N2 b -> N' b:=fun b hb=>by rw [YZ] at hb;exact hN2 b hb
  have hM2: ∀ b,MS N2 (h C.l++T) (ρs++ρ.drop K) b -> b<w'.heap.size/\ ¬ R' b:=fun b hb=>by
   rcases hb with hb | hb
   ·rw [YZ] at hb;exact ⟨hb.1,hb.2.2⟩
   ·rcases Kh b hb with hb | hb
    ·exact ⟨y'.sh.lt b (.inl hb),j6 b hb⟩
    ·exact ⟨zBa (AK b ((H6 b).1 (.inr hb))) Av,(j3 b hb).2⟩
  have out:BH (MS N (h C.l++T) ρ) w ρ (MS N2 (h C.l++T) (ρs++ρ.drop K)) w' (ρs++ρ.drop K):=by
   refine ⟨fun b hb hm _=>j2.block b hb fun hx=>hx (.inr ?_),fun b hb=>?_,pl⟩
   ·exact Classical.byContradiction fun hr=>hm (z3 b ⟨hb,hr⟩)
   ·rcases zCb b w.heap.size with hl | hl
    ·exact .inl (z3 b ⟨hl,fun hr=>(hM2 b hb).2 (j4 b hr)⟩)
    ·exact .inr hl
  have bA:BH (MS N' (h C.l) ρs) w' ρs (MS N2 (h C.l++T) (ρs++ρ.drop K)) w' (ρs++ρ.drop K):=by
   refine ⟨fun _ _ _ _=>rfl,fun b hb=>.inl ?_,fun k p hp=>?_⟩
   ·rcases hb with hb | hb
    ·exact .inl (HB b hb)
    ·obtain ⟨k,o,p,q1,q2,q3⟩:=hb;rcases zCb k K with hk | hk
     ·exact .inr ⟨k,o,p,ol hk q1,gl hk q2,q3⟩
     ·exact .inl (hON b (by rw [Ll];exact ⟨k,o,p,hk,KL hk q1,gr hk q2,q3⟩))
   ·rw [zBc (zAW.1 hp).1];exact hp
  refine ⟨s,N2,ρs++ρ.drop K,fun b=>G' b∨O b,R',⟨by simp [dR,Af,Ln],fun k o hk=>?_,fun k o p b h1 h2 h3=>?_,fun i i' o o' p p' b AR g1 g2 g3 g4 g5 g6=>?_,fun b hb=>?_,P7.gi⟩,j1,⟨⟨fun b hb=>hb.elim (j6 b) fun h=>(j3 b h).2,fun b hb=>?_⟩,y'.lo,Kh,fun b=>by rw [YZ]⟩,fun k p _ hp=>pl k p hp,ho.out bA,out,?_⟩
  ·rcases zCb k K with Fx | Fx
   ·obtain ⟨p,hp,hr⟩:=P7.obj k o (ol Fx hk);exact ⟨p,bA.pl k p hp,hr.out bA (S:=fun _=>False) (AN.refl _ _) (fun _ h=>h.elim) fun _ _ _ h=>h⟩
   ·obtain ⟨p,hp,hr⟩:=HR.obj k o (KL Fx hk);refine ⟨p,pl k p hp,hr.out out (S:=fun b=>b<w.heap.size/\ ¬ (O b∨R1 b)) (j2.mono fun b hb hx=>⟨hb,hx⟩) (fun b hb=>z3 b ⟨hb.1,fun hr=>hb.2 (.inr hr)⟩) fun b _ hf hx=>hx.2 (.inl ?_)⟩;rw [Ll];exact ⟨k,o,p,Fx,KL Fx hk,hp,hf⟩
  ·rcases zCb k K with Fx | Fx
   ·obtain ⟨c1,c2,c3⟩:=P7.cel k o p b (ol Fx h1) (gl Fx h2) h3;exact ⟨c1,fun hx=>c2 (HB b hx),c3⟩
   ·have DN:O b:=by rw [Ll];exact ⟨k,o,p,Fx,KL Fx h1,gr Fx h2,h3⟩
    obtain ⟨c1,_,c,t,z,c3⟩:=HR.cel k o p b (KL Fx h1) (gr Fx h2) h3;refine ⟨c1,fun hx=>?_,c,t,z,(j2.block b (zAL.1 c3).1 fun hx=>hx (.inl DN)).trans c3⟩;rw [YZ] at hx;exact hx.2.1 (.inr DN)
  ·rcases zCb i K with JX | JX <;> rcases zCb i' K with In | In
   ·exact P7.dis i i' o o' p p' b AR (ol JX g1) (ol In g2) (gl JX g3) (gl In g4) g5 g6
   ·exact (j3 b (by rw [Ll];exact ⟨i',o',p',In,KL In g2,gr In g4,g6⟩)).1 (y'.own b ⟨i,o,p,ol JX g1,gl JX g3,g5⟩)
   ·exact (j3 b (by rw [Ll];exact ⟨i,o,p,JX,KL JX g1,gr JX g3,g5⟩)).1 (y'.own b ⟨i',o',p',ol In g2,gl In g4,g6⟩)
   ·exact HR.dis i i' o o' p p' b AR (KL JX g1) (KL In g2) (gr JX g3) (gr In g4) g5 g6
  ·exact P7.nlt b (HB b hb)
  ·rcases hb with (hb | hb) | hb
   ·exact y'.sh.lt b (.inl hb)
   ·exact zBa (AK b ((H6 b).1 (.inr hb))) Av
   ·exact y'.sh.lt b (.inr hb)
  ·refine j2.mono fun b hb hx=>?_
   rcases z3 b ⟨hb,fun hr=>hx (.inr hr)⟩ with h | h
   ·exact .inl h
   ·exact .inr (.inl (((H6 b).2 h).resolve_right fun h=>hx (.inl h)))
def D5.K (C:D5 P)(Γ:Aj)(L:Nat)(s:Ys)(ρ0:List AE):BB P Γ L where
 I:=fun N h ρ w=>(Oy P Γ L (C.J s) (C.hJ s)).I N h ρ w/\ B0 L ρ0 ρ
 st:=fun ⟨a,b⟩ H H' st k=>⟨(Oy P Γ L (C.J s) (C.hJ s)).st a H H' st k,b.trans k⟩
def ZV (C:D5 P)(Γ:Aj)(tD:Bool -> DV)(fn:Func)(L j:Nat)(ρ0:List AE)(h:DH):QY P Γ L:=fun e S Y=> (Y=C.K Γ L (.go j) ρ0/\ CZ P fn L (tD true) h e S)∨(Y=C.K Γ L .stop ρ0/\ CZ P fn L (tD false) h e S)∨∃ c,Y=C.K Γ L (.pan c) ρ0/\ e= .panic c/\ ∃ CJ,At L S CJ/\ CJ.h=h
theorem YW.of {tD:Bool -> DV}{f L:Nat}{fn:Func}{ds:Nat -> List DV}{h:Nat -> DH}{ys:List (List DV)}(hf:P.funcs[f]? =some fn)(hb:fn.body.isSome=true)(hn:(fn.name== "runtime.NumGoroutine")=false)(hL: ∀ l,(h l).length=L) 
 (T: ∀ (C:D5 P) (i:Nat) (ρ0:List AE),(∃ rest,C.encs.drop i=ys++rest) -> An P Γ Fence.wide none L (C.K Γ L (.go i) ρ0) (ZV C Γ tD fn L (i+ys.length) ρ0 (h C.l)) [.code (AY fn)] ⟨ds C.l++List.replicate (fn.ntmps-(ds C.l).length) .any,h C.l⟩):YW P Γ tD f ds h ys:=by
 refine ⟨fun args W=>I0 hf hb hn args W,fun C i hi N ρ args w G R HR fa hj y=>?_⟩;refine qC hf hb (T C i ρ hi) HR fa ⟨⟨G,R,hj,y⟩,B0.refl _ _⟩ ?_
 have fin: ∀ {s:Ys} {d:DV} {e:Exit} {S':St} {ρ':List AE} {N':Nat -> Prop} {a':Act} {W':World},CZ P fn L d (h C.l) e S' -> AP P Γ N' S' ρ' a' W' -> (C.K Γ L s ρ).I N' S'.h ρ' W' -> (∀ M ρ' v,AI M W' d ρ' v -> P0 tD (i+ys.length) s (.returned v) M W' ρ') -> ∃ v,(results fn a'.tmps).run P W'= .ok v W'/\ ∃ s N' ρ' G' R',Ag P Γ N' (h C.l) ρ' W'/\ C.J s G' R' W'/\ IY Γ N' G' R' (h C.l) ρ' W'/\ B0 (h C.l).length ρ ρ'/\ P0 tD (i+ys.length) s (.returned v) (MS N' (h C.l) ρ') W' ρ':=by
  rintro s d e S' ρ' N' a' W' ⟨he,CJ,B2,rs,My,hd⟩ q2 ⟨q3,q4⟩ hE;obtain ⟨ρ'',E1,Sy,Ox⟩:=B2 P Γ N' ρ' a' W' q2;have y2:=(Oy P Γ L (C.J s) (C.hJ s)).st q3 q2.hr E1.hr Sy Ox;obtain ⟨v,g1,g2⟩:=Ww E1 My;rcases hd with ⟨hd,hh⟩ | ⟨_,hd,hn,hl,hh⟩
  ·obtain ⟨G3,R3,j3,y3⟩:=y2;have g3:=hd _ _ _ _ g2;have Rh:=E1.hr;rw [hh] at y3 g3 Rh;exact ⟨v,g1,s,N',ρ'',G3,R3,Rh,j3,y3,by rw [hL];exact q4.trans Ox,hE _ _ _ g3⟩
  ·obtain ⟨ρ3,R3,En,k3⟩:=At.compact (L:=L) (List.range L) CJ List.nodup_range (fun k hk=>zBa (zBf.1 hk) hl) (fun k hk=>by simp [hk]) P Γ N' ρ'' a' W' E1;obtain ⟨G3,gC,j3,y3⟩:=(Oy P Γ L (C.J s) (C.hJ s)).st y2 E1.hr R3.hr En k3;have Nk:=R3.hr;rw [hh] at Nk En y3;refine ⟨v,g1,s,N',ρ3,G3,gC,Nk,j3,y3,by rw [hL];exact (q4.trans Ox).trans k3,hE _ _ _ ?_⟩;have r0:=hn _ _ _ _ (hd _ _ _ _ g2);have r1:AI (MS N' (h C.l) ρ3) W' d [] v:=AI.out _ ⟨fun _ _ _ _=>rfl,fun b hb=>hb.elim (fun hx=>.inl (.inl hx)) fun hx=>(En.grow b hx).imp .inr id,fun _ _ hx=>by simp at hx⟩ r0;exact AI.out _ ⟨fun _ _ _ _=>rfl,fun b hb=>.inl hb,fun _ _ hx=>by simp at hx⟩ r1
 rintro e S' ρ' N' Y' a' W' q q2 q3;rcases q with ⟨rfl,q⟩ | ⟨rfl,q⟩ | ⟨c,rfl,rfl,CJ,B2,hh⟩
 ·have:=fin (s:=.go (i+ys.length)) q q2 q3 fun M ρ' v hv=>⟨rfl,v,rfl,hv⟩
  rcases q.1 with rfl | rfl <;> exact this
 ·have:=fin (s:=.stop) q q2 q3 fun M ρ' v hv=>⟨v,rfl,hv⟩
  rcases q.1 with rfl | rfl <;> exact this
 ·obtain ⟨q3,q4⟩:=q3;obtain ⟨ρ3,R3,En,k3⟩:=B2 P Γ N' ρ' a' W' q2;obtain ⟨G3,gC,j3,y3⟩:=(Oy P Γ L (C.J (.pan c)) (C.hJ (.pan c))).st q3 q2.hr R3.hr En k3;have Nk:=R3.hr;rw [hh] at Nk y3;exact ⟨.pan c,N',ρ3,G3,gC,Nk,j3,y3,by rw [hL];exact q4.trans k3,rfl⟩
section
variable {L:Nat} {C:D5 P} {i:Nat} {ρ0:List AE} {Q:QY P Γ L} {ops:Array Oper} {S:St} {Aa:BI} {vs:List Prop}
theorem De.callW {l1 l2:List Nat}{p:Nat}{tD:Bool -> DV}{g:FuncId}{dst:Option Tmp}{S1:St}{GM:BI}{ds:Nat -> List DV}{h:Nat -> DH}{ys:List (List DV)}{T:DH}(hF:Dg Fence.wide P)(As:Cu ops=true) 
 (hr:Vc P Γ ops l1 p S Aa=some (g,ds C.l,dst,S1,vs,GM)) (hv:BY vs) (H:YW P Γ tD g ds h ys) (hS:S1.h=h C.l++T) (hc:(h C.l).all (Ry (h C.l).length)=true) (hd:(ds C.l).all (Ck (h C.l).length)=true) (hi: ∃ rest,C.encs.drop i=ys++rest)
 (hk:De P Γ (C.K Γ L (.go (i+ys.length)) ρ0) ops l2 ⟨CV S1.fr dst (tD true),h C.l++T⟩ Q) (hx:De P Γ (C.K Γ L .stop ρ0) ops l2 ⟨CV S1.fr dst (tD false),h C.l++T⟩ Q)
 (hp: ∀ c,Q (.panic c) ⟨Ko S1.fr,h C.l++T⟩ (C.K Γ L (.pan c) ρ0)):De P Γ (C.K Γ L (.go i) ρ0) ops (l1++p::l2) S Q:=fun N ρ a w R y m=>by
 unfold Vc at hr;split at hr
 ·cases hr
 rename_i S2 E4 GL h1;split at hr
 ·cases hr
 rename_i o ho;split at hr
 ·rename_i hw;split at hr
  ·rename_i c PL;split at hr
   ·rename_i f U3;split at hr
    ·rename_i g' m' cap hf;simp only [zCW,zDU] at hr;obtain ⟨rfl,e2,rfl,rfl,rfl,rfl⟩:=hr;rw [Qk];have e3:CB ops (p::l2)=o::CB ops l2:=by simp only [CB,ho]
     rw [e3];refine RV hF As _ (OT l1) R h1 hv fun ρ1 a1 w1 R1 Br PY=>?_
     obtain ⟨⟨G,R0,j1,y1⟩,DK⟩:=(C.K Γ L (.go i) ρ0).st y R.hr R1.hr Br.st (fun k p _ hp=>Br.pl k p hp);obtain ⟨args,KY,Ux⟩:=fN R1 o PL U3 hf H.1;rw [e2] at Ux;unfold wpListIn;rw [zAA (IJ R1 hw)];refine ⟨fun f _=>hF.fn f,?_⟩;rw [zFp _ _ _ (Hc As ho),KY];refine ⟨fun hx=>(by cases hx),(YW.call H hi hS R1.hr hc hd Ux j1 y1).mono ?_⟩;have Ar:a1.defers= []:=PY.trans m;have CX: ∀ v,(a1.put o.dst v).defers=a1.defers:=fun v=>by cases ho:o.dst <;> simp [Act.put]
     rintro e w2 ⟨s,N2,ρ2,G2,R2,L6,j2,y2,LR,Uj,hO,_⟩;have eN:=R1.fr.out hO;have Qz:B0 L ρ0 ρ2:=fun k p hk hp=>hO.pl k p (DK k p hk hp)
     cases s with
     | go k=>
      obtain ⟨rfl,v,rfl,Is⟩:=Uj;exact hk N2 ρ2 _ w2 (Gl (S:=⟨S2.fr,h C.l++T⟩) ⟨L6,eN⟩ o.dst Is) ⟨⟨G2,R2,j2,y2⟩,Qz⟩ ((CX v).trans Ar)
     | stop=>
      obtain ⟨v,rfl,Is⟩:=Uj;exact hx N2 ρ2 _ w2 (Gl (S:=⟨S2.fr,h C.l++T⟩) ⟨L6,eN⟩ o.dst Is) ⟨⟨G2,R2,j2,y2⟩,Qz⟩ ((CX v).trans Ar)
     | pan c=>
      have he:e= .panicked c:=Uj;subst he;exact ⟨_,_,ρ2,N2,_,hp c,eN.1,L6,⟨⟨G2,R2,j2,y2⟩,Qz⟩,Ar⟩
    ·cases hr
   ·cases hr
  ·cases hr
 ·cases hr
theorem De.yieldW {l1 l2:List Nat}{p:Nat}{x:List DV}{dst:Option Tmp}{S1:St}{GM:BI}(hF:Dg Fence.wide P)(As:Cu ops=true) 
 (hr:Zb P Γ ops l1 p S Aa=some (x,C.l,dst,S1,vs,GM)) (hv:BY vs) {y:List DV} (hx:C.encs[i]? =some y) (B2:I3 x y) (hk:De P Γ (C.K Γ L (.go (i+1)) ρ0) ops l2 ⟨CV S1.fr dst (.bool true),S1.h⟩ Q) (hs:De P Γ (C.K Γ L .stop ρ0) ops l2 ⟨CV S1.fr dst (.bool false),S1.h⟩ Q) (hp: ∀ c,Q (.panic c) ⟨Ko S1.fr,S1.h⟩ (C.K Γ L (.pan c) ρ0)):De P Γ (C.K Γ L (.go i) ρ0) ops (l1++p::l2) S Q:=fun N ρ a w R y m=>by
 unfold Zb at hr;split at hr
 ·cases hr
 rename_i S2 E4 GL h1;split at hr
 ·cases hr
 rename_i o ho;split at hr
 ·rename_i hw;split at hr
  ·rename_i c PL;split at hr
   ·rename_i f U3;split at hr
    ·rename_i l hl;split at hr
     ·rename_i Ua;simp only [zCW,zDU] at hr;obtain ⟨rfl,rfl,rfl,rfl,rfl,rfl⟩:=hr;rw [Qk];have e3:CB ops (p::l2)=o::CB ops l2:=by simp only [CB,ho]
      rw [e3];refine RV hF As _ (OT l1) R h1 hv fun ρ1 a1 w1 R1 Br PY=>?_
      obtain ⟨⟨G0,R0,y1,y2⟩,DK⟩:=(C.K Γ L (.go i) ρ0).st y R.hr R1.hr Br.st (fun k p _ hp=>Br.pl k p hp);obtain ⟨R',z1,z2,z3,_⟩:=IY.part (C.hJ (.go i)) y1 y2;obtain ⟨fn,tmps,Pv,body,hy,hR⟩:=C.hy i _ _ _ R' w1 hx (YV.le B2 (YV.of (g:=AT S2.fr) (f:=a1.eval) (fun x=>BO R1 x) z3 Ua)) z1 z2.sh;unfold wpListIn;rw [zAA (IJ R1 hw)]
      have dZ:a1.eval f= .func (.yield C.l) #[] #[]:=by
       have hr:=BO R1 f;rw [hl] at hr;exact hr
      refine ⟨fun f _=>hF.fn f,?_⟩;rw [zFp _ _ _ (Hc As ho),kI PL U3 dZ rfl,hy];refine ⟨fun hx=>(by cases hx),hR.mono ?_⟩;have Ar:a1.defers= []:=PY.trans m;have CX: ∀ v,(a1.put o.dst v).defers=a1.defers:=fun v=>by cases ho:o.dst <;> simp [Act.put]
      rintro e W' ⟨hu,hj⟩;obtain ⟨s,he,BM⟩:=hj;obtain ⟨H',fo⟩:=z2.later R1.hr hu;have yy:IY Γ (fun bb=>bb<W'.heap.size/\ ¬ MO S2.h ρ1 bb/\ ¬ R' bb) (MO S2.h ρ1) R' S2.h ρ1 W':=⟨z2.sh.upd hu,z2.lo,fun _ h=>h,fun _=>Iff.rfl⟩;cases s with
      | go k=>
       obtain ⟨rfl,rfl⟩:=he;exact hk _ ρ1 _ W' (Gl (S:=S2) ⟨H',R1.fr.out fo⟩ o.dst (d:=.bool true) (v:=.bool true) rfl) ⟨⟨_,_,BM,yy⟩,DK⟩ ((CX _).trans Ar)
      | stop=>
       have he:e= .returned (.bool false):=he;subst he;exact hs _ ρ1 _ W' (Gl (S:=S2) ⟨H',R1.fr.out fo⟩ o.dst (d:=.bool false) (v:=.bool false) rfl) ⟨⟨_,_,BM,yy⟩,DK⟩ ((CX _).trans Ar)
      | pan c=>
       have he:e= .panicked c:=he;subst he;exact ⟨_,_,ρ1,_,_,hp c,R1.fr.1,H',⟨⟨_,_,BM,yy⟩,DK⟩,Ar⟩
     ·cases hr
    ·cases hr
   ·cases hr
  ·cases hr
 ·cases hr
end
end
section
variable {P:Program} {Γ:Aj} {F:Fence} {B:Option Nat} {L:Nat}
theorem HP.mono {b:Code}{Q Q':QY P Γ L}(hq: ∀ e S Y,Q e S Y -> Q' e S Y): ∀ (m:Nat) {S:St} {Y:BB P Γ L},HP P Γ F B L b Q m S Y -> HP P Γ F B L b Q' m S Y
 | 0,_,_,h=>h
 | m+1,_,_,h=>Tr.mono h fun e S Y h=>by
  cases e with
  | normal=>exact HP.mono hq m h
  | ret=>exact hq _ _ _ h
  | exit id=>exact hq _ _ _ h
  | goto t=>exact hq _ _ _ h
  | panic c=>exact hq _ _ _ h
  | outgrown=>exact hq _ _ _ h
theorem A6.mono {Q Q':QY P Γ L}(hq: ∀ e S Y,Q e S Y -> Q' e S Y): ∀ (k:List KI) {e:Exit} {S:St} {Y:BB P Γ L},A6 P Γ F B L Q k e S Y -> A6 P Γ F B L Q' k e S Y
 | [],_,_,_,h=>hq _ _ _ h
 | .code c::k,e,S,Y,h=>by
  cases e with
  | normal=>exact Tr.mono (show Tr P Γ F B L Y c S (A6 P Γ F B L Q k) from h) fun _ _ _ h=>A6.mono hq k h
  | ret=>exact A6.mono hq k (e:=.ret) h
  | exit id=>exact A6.mono hq k (e:=.exit id) h
  | goto t=>exact A6.mono hq k (e:=.goto t) h
  | panic c=>exact A6.mono hq k (e:=.panic c) h
  | outgrown=>exact A6.mono hq k (e:=.outgrown) h
 | .blk id::k,e,S,Y,h=>by
  cases e with
  | exit i=>
   have h:if i=id then A6 P Γ F B L Q k .normal S Y else A6 P Γ F B L Q k (.exit i) S Y:=h
   show if i=id then A6 P Γ F B L Q' k .normal S Y else A6 P Γ F B L Q' k (.exit i) S Y
   by_cases hi:i=id
   ·rw [zAA hi] at h ⊢;exact A6.mono hq k h
   ·rw [zAY hi] at h ⊢;exact A6.mono hq k h
  | normal=>exact A6.mono hq k (e:=.normal) h
  | ret=>exact A6.mono hq k (e:=.ret) h
  | goto t=>exact A6.mono hq k (e:=.goto t) h
  | panic c=>exact A6.mono hq k (e:=.panic c) h
  | outgrown=>exact A6.mono hq k (e:=.outgrown) h
 | .scp::k,e,S,Y,h=>by
  cases e with
  | goto t=>exact h
  | normal=>exact A6.mono hq k (e:=.normal) h
  | ret=>exact A6.mono hq k (e:=.ret) h
  | exit id=>exact A6.mono hq k (e:=.exit id) h
  | panic c=>exact A6.mono hq k (e:=.panic c) h
  | outgrown=>exact A6.mono hq k (e:=.outgrown) h
 | .lend J::k,e,S,Y,h=>by
  cases e with
  | normal=>exact h
  | ret=>exact A6.mono hq k (e:=.ret) h
  | exit id=>exact A6.mono hq k (e:=.exit id) h
  | goto t=>exact A6.mono hq k (e:=.goto t) h
  | panic c=>exact A6.mono hq k (e:=.panic c) h
  | outgrown=>exact A6.mono hq k (e:=.outgrown) h
 | .loopN m b::k,e,S,Y,h=>by
  cases e with
  | normal=>exact HP.mono (fun _ _ _ h=>A6.mono hq k h) m h
  | ret=>exact A6.mono hq k (e:=.ret) h
  | exit id=>exact A6.mono hq k (e:=.exit id) h
  | goto t=>exact A6.mono hq k (e:=.goto t) h
  | panic c=>exact A6.mono hq k (e:=.panic c) h
  | outgrown=>exact A6.mono hq k (e:=.outgrown) h
end
def wb {X:Type}(A f:Option (List X)):Option (List X):=A.bind fun a=>f.map fun b=>a++b
def wx {X:Type}(x:X)(A:Option (List X)):Option (List X):=A.map fun b=>x::b
theorem rb {X:Type}{A f:Option (List X)}{r:List X}(h:wb A f=some r): ∃ a b,A=some a/\ f=some b/\ r=a++b:=by
 obtain ⟨a,ha,h⟩:=GA h;obtain ⟨b,hb,rfl⟩:=Qx h;exact ⟨a,b,ha,hb,rfl⟩
def DW {X:Type}(C:D5 Tryz.prog)(enc:X -> List DV)(i:Nat)(r:List X):Prop:=∃ rest,C.encs.drop i=r.map enc++rest
theorem pW {α:Type}{l a b:List α}{i:Nat}(h:l.drop i=a++b):l.drop (i+a.length)=b:=by
 rw [←List.drop_drop,h,List.drop_left'];rfl
theorem DW.split {X:Type}{C:D5 Tryz.prog}{enc:X -> List DV}{i:Nat}{y b:List X}(h:DW C enc i (y++b)):(∃ rest,C.encs.drop i=y.map enc++rest)/\ DW C enc (i+(y.map enc).length) b:=by
 obtain ⟨rest,h⟩:=h;have h:C.encs.drop i=y.map enc++(b.map enc++rest):=by rw [h,List.map_append,zGA]
 exact ⟨⟨_,h⟩,rest,pW h⟩
theorem DW.cons {X:Type}{C:D5 Tryz.prog}{enc:X -> List DV}{i:Nat}{x:X}{b:List X}(h:DW C enc i (x::b)):C.encs[i]? =some (enc x)/\ DW C enc (i+1) b:=by
 obtain ⟨rest,h⟩:=h;have h:C.encs.drop i=enc x::(b.map enc++rest):=h;refine ⟨?_,rest,?_⟩
 ·have:=congrArg (·[0]?) h;simpa using this
 ·have:=pW (a:=[enc x]) h;simpa using this
section
variable {X:Type} {C:D5 Tryz.prog} {tD:Bool -> DV} {fn:Func} {L:Nat} {ρ0:List AE} {H:DH} {i:Nat} {r:List X} {enc:X -> List DV} {k K:List KI} {S:St} {ops:Array Oper}
 {c:List (DV×DH×Bool)} {o:List (Nat×DV)} {z:List (Nat×Fz)} {v:List Prop} {fr:List DV} {h1:DH} {l l1 l2:List Nat} {p:Nat} {dst:Option Tmp}
abbrev WF (C:D5 Tryz.prog)(tD:Bool -> DV)(fn:Func)(L:Nat)(ρ0:List AE)(H:DH)(i:Nat)(r:List X):QY Tryz.prog GG L:=ZV C GG tD fn L (i+r.length) ρ0 H
abbrev P4 (C:D5 Tryz.prog)(tD:Bool -> DV)(fn:Func)(L:Nat)(ρ0:List AE)(H:DH)(ops:Array Oper)(l:List Nat)(k:List KI)(i:Nat)(r:List X)(S:St):Prop:= De Tryz.prog GG (C.K GG L (.go i) ρ0) ops l S (A6 Tryz.prog GG Fence.wide none L (WF C tD fn L ρ0 H i r) k)
abbrev Nh (C:D5 Tryz.prog)(tD:Bool -> DV)(fn:Func)(L:Nat)(ρ0:List AE)(H:DH)(k:List KI)(i:Nat)(r:List X)(S:St):Prop:= An Tryz.prog GG Fence.wide none L (C.K GG L (.go i) ρ0) (WF C tD fn L ρ0 H i r) k S
abbrev q9 (C:D5 Tryz.prog)(tD:Bool -> DV)(fn:Func)(L:Nat)(ρ0:List AE)(H:DH)(k:List KI)(S:St):Prop:= BU Tryz.prog GG Fence.wide none L (C.K GG L .stop ρ0) (CZ Tryz.prog fn L (tD false) H) k S
theorem WF.app {y b:List X}{j:Nat}(hj:j=i+y.length):WF C tD fn L ρ0 H i (y++b)=WF C tD fn L ρ0 H j b:=by
 subst hj
 show ZV _ _ _ _ _ (i+(y++b).length) _ _=ZV _ _ _ _ _ (i+y.length+b.length) _ _
 rw [zBe,zCd]
theorem WF.pan {fr:List DV}{h:DH}(hL:Nat.ble L h.length=true)(hp:ar L h=H)(e:List PanicEntry):WF C tD fn L ρ0 H i r (.panic e) ⟨fr,h⟩ (C.K GG L (.pan e) ρ0):=
 .inr (.inr ⟨e,rfl,rfl,_,At.compact (List.range L) ⟨fr,h⟩ List.nodup_range (fun k hk=>zBa (zBf.1 hk) (zCo hL)) (fun k hk=>by simp [hk]),hp⟩)
theorem wO (hK:OM K=some (ops,EG K):=by kernel_rfl)(hk:P4 C tD fn L ρ0 H ops (List.range ops.size) (EG K) i r S):Nh C tD fn L ρ0 H K i r S:=by
 unfold OM at hK;split at hK
 ·rename_i id bC k;have e1:bC=ops:=congrArg Prod.fst (zAV hK);subst e1;exact Tr.ofO hk
 ·cases hK
theorem w0 (hk:Nh C tD fn L ρ0 H k i r S):P4 C tD fn L ρ0 H ops [] k i r S:=fun N ρ _ _ R y m=>⟨S,ρ,N,_,hk,R,y,m,Bd.none⟩
theorem wE (hl:HS c o z v)(fr:List DV)(h1:DH)(hk:Nh C tD fn L ρ0 H k i r ⟨fr,h1⟩)(h:(Dy Tryz.prog GG ops (CB ops l) S ⟨c,o,z,[]⟩).map (XT (Fu 0 fr))=some (fr,h1,v):=by kernel_rfl)(As:Cu ops=true:=by kernel_rfl)(hc:U0 k=true:=by kernel_rfl):P4 C tD fn L ρ0 H ops l k i r S:=by
 obtain ⟨f,Aa,h,e⟩:=lm h;refine De.done (HC.x (F:=Fence.wide)).f As h hl.all (An.leH (S':=⟨fr,h1⟩) ?_ hc hk);rw [e];exact At.forget _ _ _
theorem wS (hl:HS c o z v)(fr:List DV)(h1:DH)(hk:q9 C tD fn L ρ0 H k ⟨fr,h1⟩)(h:(Dy Tryz.prog GG ops (CB ops l) S ⟨c,o,z,[]⟩).map (XT (Fu 0 fr))=some (fr,h1,v):=by kernel_rfl)(As:Cu ops=true:=by kernel_rfl)(hc:U0 k=true:=by kernel_rfl):De Tryz.prog GG (C.K GG L .stop ρ0) ops l S (A6 Tryz.prog GG Fence.wide none L (WF C tD fn L ρ0 H i r) k):=by
 obtain ⟨f,Aa,h,e⟩:=lm h;refine De.done (HC.x (F:=Fence.wide)).f As h hl.all (A6.mono (Q:=stay (C.K GG L .stop ρ0) (CZ Tryz.prog fn L (tD false) H)) (fun e S Y hq=>.inr (.inl hq)) k (An.leH (S':=⟨fr,h1⟩) ?_ hc hk));rw [e];exact At.forget _ _ _
theorem rj (hk:q9 C tD fn L ρ0 H k S):De Tryz.prog GG (C.K GG L .stop ρ0) ops [] S (A6 Tryz.prog GG Fence.wide none L (WF C tD fn L ρ0 H i r) k):=fun N ρ _ _ R y m=>⟨S,ρ,N,_,A6.mono (Q:=stay (C.K GG L .stop ρ0) (CZ Tryz.prog fn L (tD false) H)) (fun e S Y hq=>.inr (.inl hq)) k hk,R,y,m,Bd.none⟩
theorem wY {x:X}{xs:List DV}{A:Option (List X)}(l1 l2:List Nat)(p:Nat)(hl:HS c o z v)(fr:List DV)(h1:DH)(dst:Option Tmp)(hA:wx x A=some r)(hr:DW C enc i r)(B2:I3 xs (enc x)) 
 (hs: ∀ r:List X,De Tryz.prog GG (C.K GG L .stop ρ0) ops l2 ⟨CV fr dst (.bool false),h1⟩ (A6 Tryz.prog GG Fence.wide none L (WF C tD fn L ρ0 H i r) k))
 (hk: ∀ b i',A=some b -> DW C enc i' b -> P4 C tD fn L ρ0 H ops l2 k i' b ⟨CV fr dst (.bool true),h1⟩)
 (e:l=l1++p::l2:=by kernel_rfl) (h:(Zb Tryz.prog GG ops l1 p S ⟨c,o,z,[]⟩).map (ax (Fu 0 fr))=some (xs,C.l,dst,fr,h1,v):=by kernel_rfl) (hp:ar L h1=H:=by kernel_rfl) (hL:Nat.ble L h1.length=true:=by kernel_rfl) (As:Cu ops=true:=by kernel_rfl):P4 C tD fn L ρ0 H ops l k i r S:=by
 subst e;obtain ⟨b,hb,rfl⟩:=Qx hA;obtain ⟨d1,d2⟩:=DW.cons hr;obtain ⟨f1,Aa,hy,e0⟩:=xJ h;refine De.yieldW (HC.x (F:=Fence.wide)).f As hy hl.all d1 B2 ?_ (De.weaken (Wc e0) (hs _)) fun c=>OW (WF.pan hL hp c) k
 have e:WF C tD fn L ρ0 H i (x::b)=WF C tD fn L ρ0 H (i+1) b:=WF.app (y:=[x]) rfl;rw [e];exact De.weaken (Wc e0) (hk _ _ hb d2)
theorem wC {g:FuncId}{ds:Nat -> List DV}{h:Nat -> DH}{tD':Bool -> DV}{A f:Option (List X)}(l1 l2:List Nat)(p:Nat)(hl:HS c o z v)(fr:List DV)(h1:DH)(dst:Option Tmp) 
 (hA:wb A f=some r) (hr:DW C enc i r) (HY: ∀ a,A=some a -> YW Tryz.prog GG tD' g ds h (a.map enc))
 (hs: ∀ (j:Nat) (r:List X),De Tryz.prog GG (C.K GG L .stop ρ0) ops l2 ⟨CV fr dst (tD' false),h1⟩ (A6 Tryz.prog GG Fence.wide none L (WF C tD fn L ρ0 H j r) k))
 (hk: ∀ b i',f=some b -> DW C enc i' b -> P4 C tD fn L ρ0 H ops l2 k i' b ⟨CV fr dst (tD' true),h1⟩)
 (e:l=l1++p::l2:=by kernel_rfl) (hc:(Vc Tryz.prog GG ops l1 p S ⟨c,o,z,[]⟩).map (XS (Fu 0 fr))=some (g,ds C.l,dst,fr,h1,v):=by kernel_rfl) (hS:h1.take (h C.l).length=h C.l:=by kernel_rfl)
 (BF:(h C.l).all (Ry (h C.l).length)=true:=by kernel_rfl) (Ey:(ds C.l).all (Ck (h C.l).length)=true:=by kernel_rfl) (hp:ar L h1=H:=by kernel_rfl) (hL:Nat.ble L h1.length=true:=by kernel_rfl) (As:Cu ops=true:=by kernel_rfl):P4 C tD fn L ρ0 H ops l k i r S:=by
 subst e;obtain ⟨f1,Aa,hc,e0⟩:=ll hc;obtain ⟨a,b,ha,hb,rfl⟩:=rb hA;obtain ⟨d1,d2⟩:=DW.split hr;have eT:h C.l++h1.drop (h C.l).length=h1:=(pN hS).symm;refine De.callW (T:=h1.drop (h C.l).length) (HC.x (F:=Fence.wide)).f As hc hl.all (HY a ha) (pN hS) BF Ey d1 ?_ ?_ fun c=>?_
 ·rw [WF.app (j:=i+(a.map enc).length) (by rw [zCM]),eT];exact De.weaken (Wc e0) (hk _ _ hb d2)
 ·rw [eT];exact De.weaken (Wc e0) (hs _ _)
 ·rw [eT];exact OW (WF.pan hL hp c) k
theorem wF (h:BU Tryz.prog GG Fence.wide none L (C.K GG L (.go i) ρ0) (CZ Tryz.prog fn L (tD true) H) k S):Nh C tD fn L ρ0 H k i ([]:List X) S:=
 A6.mono (Q:=stay (C.K GG L (.go i) ρ0) (CZ Tryz.prog fn L (tD true) H)) (fun e S Y hq=>.inl hq) k h
end
theorem YW.ofW {X:Type}{f L:Nat}{fn:Func}{tD:Bool -> DV}{r:List X}{enc:X -> List DV}{ds:Nat -> List DV}{h:Nat -> DH}(hf:Tryz.prog.funcs[f]? =some fn) 
 (T: ∀ (C:D5 Tryz.prog) (i:Nat) (ρ0:List AE),DW C enc i r -> Nh C tD fn L ρ0 (h C.l) [.code (AY fn)] i r ⟨ds C.l++List.replicate (fn.ntmps-(ds C.l).length) .any,h C.l⟩)
 (hb:fn.body.isSome=true:=by kernel_rfl) (hn:(fn.name== "runtime.NumGoroutine")=false:=by kernel_rfl) (hL: ∀ l,(h l).length=L:=by intro;kernel_rfl):YW Tryz.prog GG tD f ds h (r.map enc):=
 YW.of hf hb hn hL fun C i ρ0 hr=>by
  have:=T C i ρ0 hr;unfold Nh WF at this;rw [zCM];exact this
set_option maxRecDepth 100000
set_option maxHeartbeats 40000000
theorem uy:Az (A4 Tryz.f29 12) [] (List.range 7) []:=by unfold Az;kernel_rfl
def OC:Bi:=fun i=>match i with
 | 12=>.ord [] (List.range 7) []
 | _=>.no
inductive ZG where
 | l1 (BX CM IZ:Int)
def Pk (n:Nat)(self:ZG -> Option (Int×Bool))(pos:List Int)(BX CM IZ:Int):Option (Int×Bool):= bif (decide (BX<(pos.length:Int))) then if 0<=BX/\ BX<(pos.length:Int) then (TE n (pos.getD ((BX).toNat) 0)).bind fun y1=> bif (y1==0) then some (0,false) else bif (decide (y1>1)) then bif ((CM==0)&&((IZ==0)&&true)) then if AH (BX+1) then self (.l1 (BX+1) y1 BX) else none else bif (decide (y1<CM)) then if AH (BX+1) then self (.l1 (BX+1) y1 BX) else none else if AH (BX+1) then self (.l1 (BX+1) CM IZ) else none else if AH (BX+1) then self (.l1 (BX+1) CM IZ) else none else none else some (IZ,(!((CM==0)&&((IZ==0)&&true))))
def zEI (n:Nat)(self:ZG -> Option (Int×Bool))(pos:List Int):Option (Int×Bool):= self (.l1 0 0 0)
def Na (pos:List Int):Nat -> ZG -> Option (Int×Bool)
 | 0,_=>none
 | n+1,.l1 BX CM IZ=>Pk n (Na pos n) pos BX CM IZ
def Vm (n:Nat)(pos:List Int):Option (Int×Bool):=zEI n (Na pos n) pos
def zEJ (n B:Nat)(N:Yd 0)(pos:List Int)(r:Int×Bool):ZG -> Prop
 | .l1 BX CM IZ=>∀ m0:Nat,n<=m0 -> TW B N (FQ Tryz.f29 0 (.tup 2 (L1 [.i r.1,.bool r.2])) []) (Ax m0 (A7 (AY Tryz.f29) 0 [])) ⟨AF 44 [(4,.ref 0 0),(10,.ints pos),(11,.i (pos.length:Int)),(12,.i BX)],[oC [.i CM,.i IZ]]⟩
theorem zEK (B:Nat)(N:Yd 0)(pos:List Int):Al (Na pos) (zEJ · B N pos):=ia (fun _=>rfl) fun n AJ pt r h=>by
 cases pt
 case l1 BX CM IZ=>
  intro m0 AC;refine rd AC fun m0 AC=>?_
  revert r;apply gO;exact bi 13 (gi (cf tM [oC [.i CM,.i IZ]] fun _=>bi 20 (lE OC [2,3] []) (jt (bi 25 (bi 29 (jt (gw 38 (lG OC [0] (AJ _ _ · m0 AC)))) (jg (by decide:(0:Int)<=0/\ 0<((2:Nat):Int)) (bi 34 (jt (gw 38 (lG OC [0] (AJ _ _ · m0 AC)))) (gw 38 (lG OC [0] (AJ _ _ · m0 AC)))))) (gw 38 (lG OC [0] (AJ _ _ · m0 AC))))))) (jg uy (jg (by decide:(0:Int)<=1/\ 1<((2:Nat):Int)) (lE OC [2,3] [])))
theorem px {n:Nat}{pos:List Int}{r:Int×Bool}(h:Vm n pos=some r):EQ 29 [.ints pos] [] (.tup 2 (L1 [.i r.1,.bool r.2])) [] true:=by
 refine ot Tryz.func29 fun B N=>?_
 revert r;apply gO;exact jt (lN OC [0] ((zEK B N pos n) _ _ · n Nat.le.refl))
def py (n:Nat)(q:AA)(pos:List Int):Option (Int×Bool×Int):= (Ew n q pos).bind fun y1=> bif (y1 != 0) then some (0,false,y1) else (Vm n pos).bind fun y2=> some (y2.1,y2.2,0)
def fK (n:Nat)(q:AA)(pos:List Int):Option (Int×Bool×Int):=py n q pos
theorem fJ {n:Nat}{q:AA}{pos:List Int}{r:Int×Bool×Int}(h:fK n q pos=some r):EQ 14 [.agg 5 (L1 (AG q)),.ints pos] [] (.tup 3 (L1 [.i r.1,.bool r.2.1,.i r.2.2])) [] true:=by
 unfold fK py at h;refine ot Tryz.func14 fun B N=>?_
 revert r;apply gO;exact cf KH [oC (AG q)] fun _=>bi 12 (lE AD [4,5,6] []) (cf px [oC (AG q)] fun _=>lE AD [4,5,6] [])
abbrev Bc:=(Int×Int)×(List Int)
def Rp (x:Bc):List DV:=[.agg 2 (L1 [.i x.1.1,.i x.1.2]),.ints x.2]
def Zm (pos:List Int):Nat -> List DV:=fun _=>[.ints pos,.ref 0 0,.ref 2 0,.ref 3 0]
def Cj (q:AA)(pos0:List Int):Nat -> DH:=fun l=>[some (.ro (AG q)),some (.ro [.ints pos0]),some (.ro [.yl l]),some (.ro [.fn 50 3 (L1 [.ref 0 0,.ref 2 0,.ref 3 0])])]
def QG (b:Bool):DV:=.bool b
abbrev Ku:=(List Int) -> AA -> (List Int) -> Option (List Bc)
def QH (f:Ku):Prop:=∀ (pos:List Int) (q:AA) (pos0:List Int) (r:List Bc),f pos q pos0=some r -> YW Tryz.prog GG QG 50 (Zm pos) (Cj q pos0) (r.map Rp)
inductive ME where
 | l1 (FG:List Int) (GC EW:Int)
 | l2 (x10:List Int) (E3 ED:Int)
def Nq (n:Nat)(A9:Ku)(self:ME -> Option (List Bc))(pos:List Int)(q:AA)(pos0:List Int)(FG:List Int)(GC EW:Int):Option (List Bc):= bif (decide (EW<GC)) then if 0<=EW/\ EW<(FG.length:Int) then wx ((1,FG.getD ((EW).toNat) 0),([]:List Int)) (if AH (EW+1) then self (.l1 FG GC (EW+1)) else none) else none else (SM n q pos 4).bind fun y1=> (GP n y1.1).bind fun y2=> bif y2 then wx ((3,0),([]:List Int)) (some []) else (WY n y1.1).bind fun y3=> bif y3.2 then wx ((4,0),y3.1) (some []) else (Vm n y1.1).bind fun y4=> wx ((2,y4.1),([]:List Int)) (self (.l2 y1.1 y4.1 0))
def Np (n:Nat)(A9:Ku)(self:ME -> Option (List Bc))(pos:List Int)(q:AA)(pos0:List Int)(x10:List Int)(E3 ED:Int):Option (List Bc):= bif (decide (ED<q.symbols)) then if (0<=E3/\ E3<(x10.length:Int))/\ (0<=ED/\ ED<=(IntKind.i64.bits:Int)) then bif ((bits .and .i64 ((x10.getD ((E3).toNat) 0)/2 ^ (ED).toNat) 1)==0) then if AH (ED+1) then self (.l2 x10 E3 (ED+1)) else none else (Rj n q x10 E3 ED).bind fun y1=> wb (A9 y1.1 q pos0) (if AH (ED+1) then self (.l2 x10 E3 (ED+1)) else none) else none else some []
def WE (n:Nat)(A9:Ku)(self:ME -> Option (List Bc))(pos:List Int)(q:AA)(pos0:List Int):Option (List Bc):= (T6 n q pos 4).bind fun y1=> self (.l1 y1.1 (y1.1.length:Int) 0)
def EY (A9:Ku)(pos:List Int)(q:AA)(pos0:List Int):Nat -> ME -> Option (List Bc)
 | 0,_=>none
 | n+1,.l1 FG GC EW=>Nq n A9 (EY A9 pos q pos0 n) pos q pos0 FG GC EW
 | n+1,.l2 x10 E3 ED=>Np n A9 (EY A9 pos q pos0 n) pos q pos0 x10 E3 ED
def Sd (C:D5 Tryz.prog)(ρ0:List AE)(n:Nat)(pos:List Int)(q:AA)(pos0:List Int)(r:List Bc):ME -> Prop
 | .l1 FG GC EW=>∀ m0:Nat,n<=m0 -> ∀ i:Nat,DW C Rp i r -> Nh C QG Tryz.f50 4 ρ0 (Cj q pos0 C.l) (Ax m0 (A7 (AY Tryz.f50) 0 [])) i r ⟨AF 94 [(0,.ints pos),(1,.ref 0 0),(2,.ref 2 0),(3,.ref 3 0),(25,.ints FG),(26,.i GC),(27,.i EW)],[some (.ro (AG q)),some (.ro [.ints pos0]),some (.ro [.yl C.l]),some (.ro [.fn 50 3 (L1 [.ref 0 0,.ref 2 0,.ref 3 0])])]⟩
 | .l2 x10 E3 ED=>∀ m0:Nat,n<=m0 -> ∀ i:Nat,DW C Rp i r -> Nh C QG Tryz.f50 4 ρ0 (Cj q pos0 C.l) (Ax m0 (A7 (AY Tryz.f50) 2 [])) i r ⟨AF 94 [(1,.ref 0 0),(3,.ref 3 0),(10,.ints x10),(14,.i E3),(69,.i q.symbols),(70,.i ED)],[some (.ro (AG q)),some (.ro [.ints pos0]),some (.ro [.yl C.l]),some (.ro [.fn 50 3 (L1 [.ref 0 0,.ref 2 0,.ref 3 0])])]⟩
theorem ri (C:D5 Tryz.prog)(ρ0:List AE)(n:Nat)(A9:Ku)(DM:QH A9)(self:ME -> Option (List Bc))(pos:List Int)(q:AA)(pos0:List Int)(AJ: ∀ pt r,self pt=some r -> Sd C ρ0 n pos q pos0 r pt)(FG:List Int)(GC EW:Int)(r:List Bc)(h:Nq n A9 self pos q pos0 FG GC EW=some r):Sd C ρ0 (n+1) pos q pos0 r (.l1 FG GC EW):=by
 intro m0 AC;intro i hd;refine rd AC fun m0 AC=>?_
 unfold Nq at h;have p:=H0;rcases C8 h with ⟨c0,h⟩ | ⟨c0,h⟩
 ·obtain ⟨g0,h⟩:=C1 h;have p:=H0.b 28 c0 |>.g g0
  refine gs (AX 22 (AX 15 (AX 13 (AX 10 (AX 5 AD))))) [0,1,2,3] p (EU (AY Tryz.f50) 5 [m0]) (AF 94 [(0,.ints pos),(1,.ref 0 0),(2,.ref 2 0),(3,.ref 3 0),(9,.i (FG.getD ((EW).toNat) 0)),(25,.ints FG),(26,.i GC),(27,.i EW)]) (Cj q pos0 C.l) ?_;refine wO (ops:=A4 Tryz.f50 5) (by kernel_rfl) ?_;refine wY (xs:=[.agg 2 (L1 [.i 1,.i (FG.getD ((EW).toNat) 0)]),.nils]) [0,1,2] [4] 3 H0 (AF 94 [(0,.ints pos),(1,.ref 0 0),(2,.ref 2 0),(3,.ref 3 0),(25,.ints FG),(26,.i GC),(27,.i EW)]) (Cj q pos0 C.l) (some 34) h hd ⟨Ay,AL.ints_nil,trivial⟩ (fun r=>?_) fun r i h hd=>?_
  ·refine wS H0 (AF 94 [(0,.ints pos),(1,.ref 0 0),(2,.ref 2 0),(3,.ref 3 0),(25,.ints FG),(26,.i GC),(27,.i EW),(35,.bool true)]) (Cj q pos0 C.l) ?_;have p:=H0;exact ee AD [5] [0,1,2,3] p
  ·refine wE H0 (AF 94 [(0,.ints pos),(1,.ref 0 0),(2,.ref 2 0),(3,.ref 3 0),(25,.ints FG),(26,.i GC),(27,.i EW),(35,.bool false)]) (Cj q pos0 C.l) ?_;obtain ⟨g1,h⟩:=C1 h;have p:=H0.w 36 g1;exact gg (AX 22 (AX 15 (AX 13 (AX 10 (AX 5 AD))))) [0,1,2,3] p (AJ _ _ h m0 AC i hd)
 ·obtain ⟨y1,Au,h⟩:=GA h;obtain ⟨y2,Cd,h⟩:=GA h;have p:=H0.b 28 c0 |>.c (fb (zFH Au) (Cj q pos0 C.l)) |>.c (fb (O0 Cd) (Cj q pos0 C.l))
  rcases C8 h with ⟨c1,h⟩ | ⟨c1,h⟩
  ·have p:=p.b 44 c1;refine gs (AX 22 (AX 15 (AX 13 (AX 10 (AX 5 AD))))) [0,1,2,3] p (EU (AY Tryz.f50) 10 []) (AF 94 [(2,.ref 2 0)]) (Cj q pos0 C.l) ?_;refine wO (ops:=A4 Tryz.f50 10) (by kernel_rfl) ?_;refine wY (xs:=[.agg 2 (L1 [.i 3,.i 0]),.nils]) [0,1] [3] 2 H0 (AF 94 []) (Cj q pos0 C.l) (some 47) h hd ⟨Ay,AL.ints_nil,trivial⟩ (fun r=>?_) fun r i h hd=>?_
   ·refine wS H0 (AF 94 [(5,.bool false)]) (Cj q pos0 C.l) ?_;have p:=H0;exact ee AD [5] [0,1,2,3] p
   ·refine wE H0 (AF 94 [(5,.bool true)]) (Cj q pos0 C.l) ?_;have p:=H0;cases h;exact wF (ee (AX 22 (AX 15 (AX 13 (AX 10 (AX 5 AD))))) [5] [0,1,2,3] p)
  ·obtain ⟨y3,cO,h⟩:=GA h;have p:=p.b 44 c1 |>.c (fb (s8 cO) (Cj q pos0 C.l))
   rcases C8 h with ⟨c2,h⟩ | ⟨c2,h⟩
   ·have p:=p.b 52 c2;refine gs (AX 22 (AX 15 (AX 13 (AX 10 (AX 5 AD))))) [0,1,2,3] p (EU (AY Tryz.f50) 13 []) (AF 94 [(2,.ref 2 0),(12,.ints y3.1)]) (Cj q pos0 C.l) ?_;refine wO (ops:=A4 Tryz.f50 13) (by kernel_rfl) ?_;refine wY (xs:=[.agg 2 (L1 [.i 4,.i 0]),.ints y3.1]) [0,1,2] [4] 3 H0 (AF 94 []) (Cj q pos0 C.l) (some 57) h hd ⟨Ay,Ay,trivial⟩ (fun r=>?_) fun r i h hd=>?_
    ·refine wS H0 (AF 94 [(5,.bool false)]) (Cj q pos0 C.l) ?_;have p:=H0;exact ee AD [5] [0,1,2,3] p
    ·refine wE H0 (AF 94 [(5,.bool true)]) (Cj q pos0 C.l) ?_;have p:=H0;cases h;exact wF (ee (AX 22 (AX 15 (AX 13 (AX 10 (AX 5 AD))))) [5] [0,1,2,3] p)
   ·obtain ⟨y4,cN,h⟩:=GA h;have p:=p.b 52 c2 |>.c (fb (px cN) (Cj q pos0 C.l))
    refine gs (AX 22 (AX 15 (AX 13 (AX 10 (AX 5 AD))))) [0,1,2,3] p (EU (AY Tryz.f50) 15 []) (AF 94 [(1,.ref 0 0),(2,.ref 2 0),(3,.ref 3 0),(10,.ints y1.1),(14,.i y4.1)]) (Cj q pos0 C.l) ?_;refine wO (ops:=A4 Tryz.f50 15) (by kernel_rfl) ?_;refine wY (xs:=[.agg 2 (L1 [.i 2,.i y4.1]),.nils]) [0,1,2] [4] 3 H0 (AF 94 [(1,.ref 0 0),(3,.ref 3 0),(10,.ints y1.1),(14,.i y4.1)]) (Cj q pos0 C.l) (some 66) h hd ⟨Ay,AL.ints_nil,trivial⟩ (fun r=>?_) fun r i h hd=>?_
    ·refine wS H0 (AF 94 [(1,.ref 0 0),(3,.ref 3 0),(10,.ints y1.1),(14,.i y4.1),(67,.bool true)]) (Cj q pos0 C.l) ?_;have p:=H0;exact ee AD [5] [0,1,2,3] p
    ·refine wE H0 (AF 94 [(1,.ref 0 0),(3,.ref 3 0),(10,.ints y1.1),(14,.i y4.1),(67,.bool false)]) (Cj q pos0 C.l) ?_;have p:=H0;exact gg (AX 22 (AX 15 (AX 13 (AX 10 (AX 5 AD))))) [0,1,2,3] p (en n (AJ _ _ h n Nat.le.refl i hd))
theorem rh (C:D5 Tryz.prog)(ρ0:List AE)(n:Nat)(A9:Ku)(DM:QH A9)(self:ME -> Option (List Bc))(pos:List Int)(q:AA)(pos0:List Int)(AJ: ∀ pt r,self pt=some r -> Sd C ρ0 n pos q pos0 r pt)(x10:List Int)(E3 ED:Int)(r:List Bc)(h:Np n A9 self pos q pos0 x10 E3 ED=some r):Sd C ρ0 (n+1) pos q pos0 r (.l2 x10 E3 ED):=by
 intro m0 AC;intro i hd;refine rd AC fun m0 AC=>?_
 unfold Np at h;have p:=H0;rcases C8 h with ⟨c0,h⟩ | ⟨c0,h⟩
 ·obtain ⟨⟨g0,g1⟩,h⟩:=C1 h;have p:=H0.b 71 c0 |>.g g0 |>.g g1
  rcases C8 h with ⟨c1,h⟩ | ⟨c1,h⟩
  ·obtain ⟨g2,h⟩:=C1 h;have p:=p.b 80 c1 |>.w 93 g2
   exact gg (AX 22 (AX 15 (AX 13 (AX 10 (AX 5 AD))))) [0,1,2,3] p (AJ _ _ h m0 AC i hd)
  ·obtain ⟨y1,Au,h⟩:=GA h;have p:=p.b 80 c1 |>.c (fb (zC7 Au) (Cj q pos0 C.l))
   refine gs (AX 22 (AX 15 (AX 13 (AX 10 (AX 5 AD))))) [0,1,2,3] p (EU (AY Tryz.f50) 22 [m0]) (AF 94 [(1,.ref 0 0),(3,.ref 3 0),(10,.ints x10),(14,.i E3),(17,.ints y1.1),(69,.i q.symbols),(70,.i ED)]) (Cj q pos0 C.l) ?_;refine wO (ops:=A4 Tryz.f50 22) (by kernel_rfl) ?_;refine wC (ds:=Zm y1.1) (h:=Cj q pos0) (tD':=QG) [0,1] [3] 2 H0 (AF 94 [(1,.ref 0 0),(3,.ref 3 0),(10,.ints x10),(14,.i E3),(69,.i q.symbols),(70,.i ED)]) (Cj q pos0 C.l) (some 91) h hd (fun a ha=>DM _ _ _ a ha) (fun i r=>?_) fun r i h hd=>?_
   ·refine wS H0 (AF 94 [(1,.ref 0 0),(3,.ref 3 0),(10,.ints x10),(14,.i E3),(69,.i q.symbols),(70,.i ED),(92,.bool true)]) (Cj q pos0 C.l) ?_;have p:=H0;exact ee AD [5] [0,1,2,3] p
   ·refine wE H0 (AF 94 [(1,.ref 0 0),(3,.ref 3 0),(10,.ints x10),(14,.i E3),(69,.i q.symbols),(70,.i ED),(92,.bool false)]) (Cj q pos0 C.l) ?_;obtain ⟨g2,h⟩:=C1 h;have p:=H0.w 93 g2;exact gg (AX 22 (AX 15 (AX 13 (AX 10 (AX 5 AD))))) [0,1,2,3] p (AJ _ _ h m0 AC i hd)
 ·have p:=H0.b 71 c0;cases h;exact wF (ee (AX 22 (AX 15 (AX 13 (AX 10 (AX 5 AD))))) [5] [0,1,2,3] p)
theorem Zn (C:D5 Tryz.prog)(ρ0:List AE)(A9:Ku)(DM:QH A9)(pos:List Int)(q:AA)(pos0:List Int): ∀ (n:Nat) (pt:ME) (r:List Bc),EY A9 pos q pos0 n pt=some r -> Sd C ρ0 n pos q pos0 r pt
 | 0,_,_,h=>by cases h
 | n+1,.l1 FG GC EW,r,h=>ri C ρ0 n A9 DM (EY A9 pos q pos0 n) pos q pos0 (Zn C ρ0 A9 DM pos q pos0 n) FG GC EW r h
 | n+1,.l2 x10 E3 ED,r,h=>rh C ρ0 n A9 DM (EY A9 pos q pos0 n) pos q pos0 (Zn C ρ0 A9 DM pos q pos0 n) x10 E3 ED r h
def DT:Nat -> (List Int) -> AA -> (List Int) -> Option (List Bc)
 | 0,_,_,_=>none
 | n+1,pos,q,pos0=>WE n (DT n) (EY (DT n) pos q pos0 n) pos q pos0
theorem rf {n:Nat}{A9:Ku}(DM:QH A9):QH (fun pos q pos0=>WE n A9 (EY A9 pos q pos0 n) pos q pos0):=fun pos q pos0 r h=>YW.ofW (L:=4) (h:=Cj q pos0) (tD:=QG) Tryz.func50 (fun C i ρ0 hd=>by
 replace h:WE n A9 (EY A9 pos q pos0 n) pos q pos0=some r:=h;have AJ:=(Zn C ρ0 A9 DM pos q pos0 n);unfold WE at h
 generalize EY A9 pos q pos0 n=self at h AJ
 obtain ⟨y1,Au,h⟩:=GA h;have p:=H0.c (fb (xO Au) (Cj q pos0 C.l));exact gg (AX 22 (AX 15 (AX 13 (AX 10 (AX 5 AD))))) [0,1,2,3] p (en n (AJ _ _ h n Nat.le.refl i hd)))
theorem gm: ∀ n,QH (DT n)
 | 0=>fun _ _ _ r h=>by cases h
 | n+1=>rf (gm n)
def xn:Nat -> List DV:=fun l=>[.yl l,.ref 0 0,.ref 1 0]
def Oe (q:AA)(pos0:List Int):Nat -> DH:=fun _=>[some (.ro (AG q)),some (.ro [.ints pos0])]
def bO (b:Bool):DV:=QQ
abbrev xp:=AA -> (List Int) -> Option (List Bc)
def xo (f:xp):Prop:=∀ (q:AA) (pos0:List Int) (r:List Bc),f q pos0=some r -> YW Tryz.prog GG bO 49 (xn) (Oe q pos0) (r.map Rp)
def bP (n:Nat)(q:AA)(pos0:List Int):Option (List Bc):= wb (DT n pos0 q pos0) (some [])
def LL (n:Nat)(q:AA)(pos0:List Int):Option (List Bc):=bP n q pos0
theorem xl {n:Nat}:xo (LL n):=fun q pos0 r h=>YW.ofW (L:=2) (h:=Oe q pos0) (tD:=bO) Tryz.func49 (fun C i ρ0 hd=>by
 replace h:bP n q pos0=some r:=h;unfold bP at h;have p:=H0.t;refine gs (AX 3 AD) [0,1,2,3] p (EU (AY Tryz.f49) 3 []) (AF 9 [(2,.ref 1 0),(4,.ref 3 0)]) (Oe q pos0 C.l++[oC [.yl C.l],oC [.fn 50 3 (L1 [.ref 0 0,.ref 2 0,.ref 3 0])]]) ?_;refine rH [2,3] (Oe q pos0 C.l++[some (.ro [.yl C.l]),some (.ro [.fn 50 3 (L1 [.ref 0 0,.ref 2 0,.ref 3 0])])]) ?_;refine wO (ops:=A4 Tryz.f49 3) (by kernel_rfl) ?_;refine wC (ds:=Zm pos0) (h:=Cj q pos0) (tD':=QG) [0,1] [] 2 H0 (AF 9 []) (Oe q pos0 C.l++[some (.ro [.yl C.l]),some (.ro [.fn 50 3 (L1 [.ref 0 0,.ref 2 0,.ref 3 0])])]) (some 8) h hd (fun a ha=>gm n _ _ _ a ha) (fun i r=>?_) fun r i h hd=>?_
 ·refine rj ?_;have p:=H0;exact ee AD [] [0,1] p
 ·refine w0 ?_;have p:=H0;cases h;exact wF (ee (AX 3 AD) [] [0,1] p))
end Go.Proofs.YtodinaconebmdaaGreatDoor
namespace Go.Proofs.YtodinaconebmdaaGreatDoor
open Go.RowKit
theorem tS {x:Int}{k:Nat}(h:Sm k x):Cn x k= []:=by
 unfold Cn;rw [zHB];intro s hs;have:=zHC.1 hs;rw [h.hi this.1];decide
theorem tL {k:Nat}{x:Int}(hk:k<=16)(h:Sm k x):Sm 16 x:=
 aA (by decide) (h.in64 (by omega)) fun i hi _=>h.hi (by omega)
theorem tT {x:Int}{i:Nat}:(Cn x i).Nodup:=List.Nodup.sublist List.filter_sublist List.nodup_range'
def Di (p:List Int)(k:Nat):Nat:=(Cn (p.getD k 0) 0).length
def CU (p:List Int):Nat -> Nat×Nat
 | 0=>(0,0)
 | k+1=>if 1<Di p k/\ (CU p k=(0,0)∨Di p k<(CU p k).1) then (Di p k,k) else CU p k
def Qi (i:Int):Bc:=((1,i),[])
inductive Sr (q:AA):Option (Nat×List Nat) -> List Int -> List Bc -> Prop
 | dead {p x o:List Int}:SR q p 4 (o,0) -> Kq q 4 p x -> BZ x=true -> Sr q none p (o.map Qi++[((3,0),[])])
 | done {p x o g:List Int}:SR q p 4 (o,0) -> Kq q 4 p x -> BZ x=false -> E6 x=some g -> Sr q none p (o.map Qi++[((4,0),g)])
 | split {p x o:List Int} {c:Nat} {l:List Bc}:SR q p 4 (o,0) -> Kq q 4 p x -> BZ x=false -> E6 x=none -> c=(CU x x.length).2 -> c<x.length -> 2<=Di x c -> Sr q (some (c,Cn (x.getD c 0) 0)) x l -> Sr q none p (o.map Qi++((2,(c:Int)),[])::l)
 | nil {x:List Int} {c:Nat}:Sr q (some (c,[])) x []
 | cons {x:List Int} {c s:Nat} {ss:List Nat} {a b:List Bc}:Sr q none (H8 x c s) a -> Sr q (some (c,ss)) x b -> Sr q (some (c,s::ss)) x (a++b)
section
variable {q:AA} {p x pos0 o:List Int} {c s:Nat}
theorem BK.sm16 (h:BK q x)(j:Nat)(hj:j<x.length):Sm 16 (x.getD j 0):=tL h.k (h.sm j hj)
theorem Z0 (h:BK q x){j:Nat}(hj:j<x.length):0<Di x j↔x.getD j 0≠0:=by
 rw [GD (h.in64 j),Di,List.length_pos_iff_exists_mem];constructor
 ·rintro ⟨s,hs⟩;have:=UH.1 hs;exact ⟨s,by omega,this.2⟩
 ·rintro ⟨s,_,hs⟩;refine ⟨s,UH.2 ⟨zCi fun B2=>?_,hs⟩⟩;rw [(h.sm16 j hj).hi B2] at hs;cases hs
theorem p5: ∀ k,(CU x k=(0,0)/\ ∀ j,j<k -> Di x j<=1)∨(2<=(CU x k).1/\ (CU x k).2<k/\ Di x (CU x k).2=(CU x k).1)
 | 0=>.inl ⟨rfl,fun j hj=>absurd hj (zBk j)⟩
 | k+1=>by
  unfold CU;split
  ·rename_i h;exact .inr ⟨h.1,Nat.lt_succ_self k,rfl⟩
  ·rename_i h;rcases p5 k with ⟨h1,h2⟩ | ⟨h1,h2,h3⟩
   ·refine .inl ⟨h1,fun j hj=>?_⟩;rcases zBj.1 hj with hj | rfl
    ·exact h2 j hj
    ·exact zF3 fun AK=>h ⟨AK,.inl h1⟩
   ·exact .inr ⟨h1,by omega,h3⟩
theorem jR: ∀ {l:List Int},(∀ j,j<l.length -> Di l j=1) -> ∃ g,E6 l=some g
 | [],_=>⟨[],rfl⟩
 | x::l,h=>by
  obtain ⟨g,hg⟩:=jR (l:=l) fun j hj=>h (j+1) (by simpa using hj)
  have h0:=h 0 (by simp);have h0:(Cn x 0).length=1:=h0;obtain ⟨s,hs⟩:=List.length_eq_one_iff.1 h0;refine ⟨(s:Int)::g,?_⟩;unfold E6;rw [hs,hg];rfl
theorem zEL (h:BK q x)(hd:BZ x=false)(hs:E6 x=none):CU x x.length≠(0,0)/\ (CU x x.length).2<x.length/\ 2<=Di x (CU x x.length).2:=by
 rcases p5 (x:=x) x.length with ⟨_,h2⟩ | ⟨h1,h2,h3⟩
 ·obtain ⟨g,hg⟩:=jR (l:=x) fun j hj=>by
   have:=h2 j hj;have:=(Z0 h hj).2 (HM.1 hd j hj);omega
  rw [hg] at hs;cases hs
 ·exact ⟨fun e=>by rw [e] at h1;exact absurd h1 (by decide),h2,by omega⟩
theorem pw (h:BK q x): ∀ (k j:Nat),j+k=x.length -> (∀ i,i<j -> x.getD i 0≠0) -> Ev (fun n=>Na x n (.l1 (j:Int) ((CU x j).1:Int) ((CU x j).2:Int))) (if BZ x then (0,false) else (((CU x x.length).2:Int),decide (CU x x.length≠(0,0))))
 | 0,j,e,hz=>by
  have hd:BZ x=false:=HM.2 fun i hi=>hz i (by omega)
  refine Ev.one fun n=>?_
  show Pk n (Na x n) x (j:Int) _ _=_
  unfold Pk;have e:j=x.length:=by omega
  rw [zAI (by omega),zAC,hd,zAY (by decide),e]
  generalize CU x x.length=b
  obtain ⟨b1,b2⟩:=b
  congr 2
  rw [zFk];simp [Prod.ext_iff]
 | k+1,j,e,hz=>by
  have hj:j<x.length:=by omega
  have Ez:=h.len256;obtain ⟨N,hN⟩:=tN (h.sm16 j hj);have hN: ∀ n,N<=n -> TE n (x.getD j 0)=some ((Di x j:Nat):Int):=hN;have h16:Di x j<=16:=ji
  by_cases h0:x.getD j 0=0
  ·have hd:BZ x=true:=by
    cases hd:BZ x with
    | true=>rfl
    | false=>exact absurd h0 (HM.1 hd j hj)
   have hs:Di x j=0:=Nat.eq_zero_of_not_pos fun hp=>(Z0 h hj).1 hp h0
   refine Ev.oneN N fun n hn=>?_
   show Pk n (Na x n) x (j:Int) _ _=_
   unfold Pk;rw [zAU (by omega),zAK,zAA ⟨by omega,by omega⟩,zAP,hN n hn,zAB,hs,hd,zAA rfl];rfl
  ·have ih:=pw h k (j+1) (by omega) fun i hi=>by
    rcases zBj.1 hi with hi | rfl
    ·exact hz i hi
    ·exact h0
   have hs:Di x j≠0:=fun hs=>by
    have:=(Z0 h hj).2 h0;omega
   refine BL.ev (m:=Na x) (BL.oneN N fun n hn=>?_) ih
   show Pk n (Na x n) x (j:Int) _ _=_
   unfold Pk;rw [zAU (by omega),zAK,zAA ⟨by omega,by omega⟩,zAP,hN n hn,zAB];rw [show (((Di x j:Nat):Int)==0)=false from zCf.2 (by omega),zAC];rw [show ((j+1:Nat):Int)=(j:Int)+1 by omega];simp only [zAA (show AH ((j:Int)+1) from Aw.2 ⟨by omega,by omega⟩)]
   have ec:(((CU x j).1:Int)==0&&(((CU x j).2:Int)==0&&true))=decide (CU x j=(0,0)):=by
    generalize CU x j=b
    obtain ⟨b1,b2⟩:=b;rw [zFk];simp [Prod.ext_iff]
   rw [ec,show CU x (j+1)=if 1<Di x j/\ (CU x j=(0,0)∨Di x j<(CU x j).1) then (Di x j,j) else CU x j from rfl]
   by_cases h1:1<Di x j
   ·rw [show decide (((Di x j:Nat):Int)>1)=true from zAU (by omega),zAK]
    by_cases h2:CU x j=(0,0)
    ·rw [zAU h2,zAK,zAA ⟨h1,.inl h2⟩]
    ·rw [zAI h2,zAC]
     by_cases h3:Di x j<(CU x j).1
     ·rw [show decide (((Di x j:Nat):Int)<((CU x j).1:Int))=true from zAU (by omega),zAK,zAA ⟨h1,.inr h3⟩]
     ·rw [show decide (((Di x j:Nat):Int)<((CU x j).1:Int))=false from zAI (by omega),zAC,zAY fun hh=>hh.2.elim h2 h3]
   ·rw [show decide (((Di x j:Nat):Int)>1)=false from zAI (by omega),zAC,zAY fun hh=>h1 hh.1]
theorem zEH (h:BK q x):Ev (fun n=>Vm n x) (if BZ x then (0,false) else (((CU x x.length).2:Int),decide (CU x x.length≠(0,0)))):=
 (pw h x.length 0 (by omega) fun i hi=>absurd hi (zBk i)).eq fun _=>rfl
theorem oq (h:BK q x)(hc:c<x.length)(hs:s<q.symbols.toNat){l t:Nat}(ht:tb ((H8 x c s).getD l 0) t=true):tb (x.getD l 0) t=true/\ (l=c -> t=s):=by
 obtain ⟨z1,z2⟩:=om h.valid h.ok hc hs;unfold H8 at ht;split at ht
 ·rw [u8,zCe] at ht;split at ht <;> exact absurd ht IK
 ·by_cases hl:l<x.length
  ·rw [(z2 l hl).2] at ht;simp only [zAO,zCL,zCg,zFx,zCJ] at ht;exact ⟨ht.1,fun e=>ht.2.resolve_left fun h=>h e⟩
  ·rw [u8,zCU (by omega)] at ht;exact absurd ht IK
theorem BK.fx (h:BK q x)(hc:c<x.length)(hs:s<q.symbols.toNat):BK q (H8 x c s):=⟨h.fit,h.valid,zC1 h.valid h.ok hc hs⟩
theorem zC0 (h:BK q x)(hc:c<x.length)(hs:s<q.symbols.toNat)(h2:2<=Di x c):wt (H8 x c s)<wt x:=by
 refine Sb (h.fx hc hs) h (fun j t ht=>(oq h hc hs ht).1) fun e=>?_
 have all: ∀ t∈Cn (x.getD c 0) 0,t=s:=fun t ht=>by
  have:=(UH.1 ht).2;rw [←e] at this;exact (oq h hc hs this).2 rfl
 have nd:=tT (x:=x.getD c 0) (i:=0);unfold Di at h2
 generalize Cn (x.getD c 0) 0=l at*
 match l,h2 with
 | a::b::l,_=>
  have e1:=all a (by simp);have e2:=all b (by simp);rw [e1,e2] at nd;simp at nd
theorem jI (h:BK q x)(hc:c<x.length)(ih: ∀ s,s<q.symbols.toNat -> ∃ l,Sr q none (H8 x c s) l/\ Ev (fun n=>DT n (H8 x c s) q pos0) l):
 ∀ (k j:Nat),j+k=q.symbols.toNat -> ∃ l,Sr q (some (c,Cn (x.getD c 0) j)) x l/\ ∃ N,∀ n m,N<=n -> N<=m -> EY (DT m) p q pos0 n (.l2 x (c:Int) (j:Int))=some l
 | 0,j,e=>by
  have hx:=h.sm c hc;have hk:=h.k;refine ⟨[],?_,1,fun n m hn _=>?_⟩
  ·rw [show j=q.symbols.toNat by omega,tS hx];exact .nil
  ·obtain ⟨n,rfl⟩: ∃ k,n=k+1:=⟨n-1,by omega⟩
   show Np n (DT m) (EY (DT m) p q pos0 n) p q pos0 x (c:Int) (j:Int)=_
   unfold Np;rw [zAI (by omega),zAC]
 | k+1,j,e=>by
  have hx:=h.sm c hc;have hk:=h.k;obtain ⟨b,hb,N,hN⟩:=jI h hc ih k (j+1) (by omega)
  have step: ∀ n m,EY (DT m) p q pos0 (n+1) (.l2 x (c:Int) (j:Int))=bif !tb (x.getD c 0) j then EY (DT m) p q pos0 n (.l2 x (c:Int) ((j+1:Nat):Int)) else (Rj n q x c j).bind fun y1=>wb (DT m y1.1 q pos0) (EY (DT m) p q pos0 n (.l2 x (c:Int) ((j+1:Nat):Int))):=fun n m=>by
   show Np n (DT m) (EY (DT m) p q pos0 n) p q pos0 x (c:Int) (j:Int)=_
   unfold Np;have r1:AH ((j:Int)+1):=Aw.2 ⟨by omega,by omega⟩;rw [zAU (by omega),zAK,zAA ⟨⟨by omega,by omega⟩,by omega,by show (j:Int)<=((64:Nat):Int);omega⟩,zAP,zAP,tQ hx (by omega) (by omega)];simp only [zAA r1];rfl
  rw [jh (show j<16 by omega)];cases ht:tb (x.getD c 0) j with
  | false=>
   rw [zAY (by decide)];refine ⟨b,hb,N+1,fun n m hn hm=>?_⟩;obtain ⟨n,rfl⟩: ∃ k,n=k+1:=⟨n-1,by omega⟩;rw [step,ht];exact hN n m (by omega) (by omega)
  | true=>
   rw [zAA rfl];obtain ⟨a,ha,M,hM⟩:=ih j (by omega);have hM: ∀ n,M<=n -> DT n (H8 x c j,(0:Int)).1 q pos0=some a:=hM;refine ⟨a++b,.cons ha hb,N+M+GE q+301,fun n m hn hm=>?_⟩;obtain ⟨n,rfl⟩: ∃ k,n=k+1:=⟨n-1,by omega⟩;rw [step,ht,zC6 h.fit h.valid h.ok hc (by omega) (show GE q+300<=n by omega)]
   show wb _ _=_
   rw [hM m (by omega),hN n m (by omega) (by omega)];rfl
theorem o9 {t:List Bc}(ho:o.length<=20000)(h: ∃ N,∀ n m,N<=n -> N<=m -> EY (DT m) p q pos0 n (.l1 o (o.length:Int) (o.length:Int))=some t):
 ∀ (k j:Nat),j+k=o.length -> ∃ N,∀ n m,N<=n -> N<=m -> EY (DT m) p q pos0 n (.l1 o (o.length:Int) (j:Int))=some ((o.drop j).map Qi++t)
 | 0,j,e=>by
  rw [show j=o.length by omega,zGp];exact h
 | k+1,j,e=>by
  obtain ⟨N,hN⟩:=o9 ho h k (j+1) (by omega);refine ⟨N+1,fun n m hn hm=>?_⟩;obtain ⟨n,rfl⟩: ∃ k,n=k+1:=⟨n-1,by omega⟩;have hj:j<o.length:=by omega
  show Nq n (DT m) (EY (DT m) p q pos0 n) p q pos0 o (o.length:Int) (j:Int)=_
  unfold Nq;rw [zAU (by omega),zAK,zAA ⟨by omega,by omega⟩,zAA (Aw.2 ⟨by omega,by omega⟩),zAP,show (j:Int)+1=((j+1:Nat):Int) by omega,hN n m (by omega) (by omega),zBw hj];have:o.getD j 0=o[j]:=by simp [hj]
  rw [this];rfl
theorem SR.zero (hp:BK q p){level:Int}{r:List Int×Int}(h:SR q p level r):r.2=0/\ r.1.length<=20000:=by
 rcases h with ⟨h1,_⟩ | ⟨_,_,h3⟩ | ⟨_,_,h3,h4,_⟩
 ·exact absurd hp.check h1
 ·rw [h3];exact ⟨rfl,by decide⟩
 ·exact ⟨h3,h4⟩
theorem Kq.posn (hp:BK q p){level:Int}(h:Kq q level p x):BK q x/\ Le x p/\ wt x<=wt p:=by
 have key:BK q x/\ Le x p:=by
  rcases h with ⟨_,rfl⟩ | ⟨_,h1,_⟩
  ·exact ⟨⟨hp.fit,hp.valid,gG hp.valid hp.ok⟩,fun j s hs=>by
    rw [u8,zCe] at hs;split at hs <;> exact absurd hs IK⟩
  ·exact ⟨h1.pos r7 hp,h1.le⟩
 refine ⟨key.1,key.2,?_⟩
 by_cases e:x=p
 ·rw [e];exact zBl _
 ·have:=Sb key.1 hp key.2 e;omega
theorem zFA (hp:BK q p){level:Int}: ∃ x,Ev (fun n=>SM n q p level) (x,0)/\ Kq q level p x:=by
 obtain ⟨⟨x,e⟩,h1,h2⟩:=zFB (level:=level) hp.fit (zAa hp.len256.2 (by decide));rcases h2 with ⟨h3,_⟩ | ⟨_,h3,_⟩ | ⟨_,_,h3,h4⟩
 ·exact absurd hp.check h3
 ·cases h3
 ·have h3:e=0:=h3;subst h3;exact ⟨x,h1,h4⟩
theorem re: ∀ (M:Nat) {p:List Int},wt p<=M -> BK q p -> ∃ l,Sr q none p l/\ Ev (fun n=>DT n p q pos0) l:=by
 intro M
 induction M using Nat.strongRecOn with
 | ind M ih=>
  intro p hM hp;obtain ⟨⟨o,e⟩,o1,o2⟩:=xN (level:=4) hp.fit (zAa hp.len256.2 (by decide));obtain ⟨he,ho⟩:=o2.zero hp;have he:e=0:=he;subst he;have ho:o.length<=20000:=ho;obtain ⟨x,a1,a2⟩:=zFA (level:=4) hp;obtain ⟨hx,O8,hxw⟩:=a2.posn hp;obtain ⟨A,a1⟩:=a1;have Ez:=hx.len256;have HK: ∀ m,300<=m -> GP m (x,(0:Int)).1=some (BZ x):=fun m hm=>Mt (zAa Ez.2 (by decide)) (by show x.length<m;omega)
  obtain ⟨S,s1⟩:=tH (pos:=x) hx.sm16 Ez.2;have s1: ∀ n,S<=n -> WY n (x,(0:Int)).1=some (JE [] (E6 x)):=s1;obtain ⟨C,c1⟩:=zEH hx;have c1: ∀ n,C<=n -> Vm n (x,(0:Int)).1=_:=c1
  have key: ∃ t,Sr q none p (o.map Qi++t)/\ ∃ N,∀ n m,N<=n -> N<=m -> EY (DT m) p q pos0 n (.l1 o (o.length:Int) (o.length:Int))=some t:=by
   have step: ∀ n m,A+300+S+C<=n -> EY (DT m) p q pos0 (n+1) (.l1 o (o.length:Int) (o.length:Int))=bif BZ x then some [((3,0),[])] else bif (JE [] (E6 x)).2 then some [((4,0),(JE [] (E6 x)).1)] else wx ((2,((CU x x.length).2:Int)),[]) (EY (DT m) p q pos0 n (.l2 x ((CU x x.length).2:Int) 0)):=fun n m hn=>by
    show Nq n (DT m) (EY (DT m) p q pos0 n) p q pos0 o (o.length:Int) (o.length:Int)=_
    unfold Nq;rw [zAI (by omega),zAC,show SM n q p 4=some (x,0) from a1 n (by omega),zAB,HK n (by omega),zAB];cases hd:BZ x with
    | true=>rfl
    | false=>
     rw [zAC,zAC,s1 n (by omega),zAB];cases hs:(JE [] (E6 x)).2 with
     | true=>rfl
     | false=>
      rw [zAC,zAC,c1 n (by omega),zAB,hd,zAY (by decide)]
   cases hd:BZ x with
   | true=>
    refine ⟨_,.dead o2 a2 hd,A+300+S+C+1,fun n m hn _=>?_⟩;obtain ⟨n,rfl⟩: ∃ k,n=k+1:=⟨n-1,by omega⟩;rw [step n m (by omega),hd];rfl
   | false=>
    cases hs:E6 x with
    | some g=>
     refine ⟨_,.done o2 a2 hd hs,A+300+S+C+1,fun n m hn _=>?_⟩;obtain ⟨n,rfl⟩: ∃ k,n=k+1:=⟨n-1,by omega⟩;rw [step n m (by omega),hd,hs];simp [JE]
    | none=>
     obtain ⟨_,k2,k3⟩:=zEL hx hd hs;have hc:=fun s (hs:s<q.symbols.toNat)=>ih (wt (H8 x (CU x x.length).2 s)) (by have:=zC0 hx k2 hs k3;omega) (zBl _) (hx.fx k2 hs)
     obtain ⟨l,l1,N,l2⟩:=jI (p:=p) (pos0:=pos0) hx k2 hc q.symbols.toNat 0 (by omega);refine ⟨_,.split o2 a2 hd hs rfl k2 k3 l1,A+300+S+C+N+1,fun n m hn hm=>?_⟩;obtain ⟨n,rfl⟩: ∃ k,n=k+1:=⟨n-1,by omega⟩;rw [step n m (by omega),hd,hs];have:=l2 n m (by omega) (by omega);rw [show ((0:Nat):Int)=0 from rfl] at this;rw [this];simp [JE,wx]
  obtain ⟨t,t1,t2⟩:=key;obtain ⟨N,hN⟩:=o9 ho t2 o.length 0 (by omega);obtain ⟨O,o1⟩:=o1;refine ⟨_,t1,N+O+1,fun n hn=>?_⟩;obtain ⟨n,rfl⟩: ∃ k,n=k+1:=⟨n-1,by omega⟩
  show (T6 n q p 4).bind _=_
  rw [show T6 n q p 4=some (o,0) from o1 n (by omega),zAB];have:=hN n n (by omega) (by omega);rw [zFt] at this;exact this
theorem xm (hp:BK q p): ∃ l,Sr q none p l/\ Ev (fun n=>LL n q p) l:=by
 obtain ⟨l,h1,N,h2⟩:=re (pos0:=p) (wt p) (zBl _) hp;refine ⟨l,h1,N,fun n hn=>?_⟩
 show wb (DT n p q p) (some [])=_
 rw [show DT n p q p=some l from h2 n hn]
 show some (l++[])=_
 rw [zF1]
end
section
variable {P:Program} {Γ:Aj} {N:Nat -> Prop} {ρ:List AE} {w:World} {hc T:DH}
def hid (K:Nat)(T:DH):DH:=List.replicate K none++T
theorem Uu {K k:Nat}{o:DO}(h:(hid K T)[k]? =some (some o)):K<=k/\ ∀ l:DH,l.length=K -> (l++T)[k]? =some (some o):=by
 rcases zCb k K with hk | hk
 ·unfold hid at h;rw [zBc (by simp [hk]),zCe,zAA hk] at h;cases h
 ·refine ⟨hk,fun l hl=>?_⟩;unfold hid at h;rw [zBg (by simp [hk]),zB1] at h;rw [zBg (by omega),hl];exact h
theorem MO.hid {b:Nat}(h:MO (hid hc.length T) ρ b):MT hc.length (hc++T) ρ b:=by
 obtain ⟨k,o,p,h1,h2,h3⟩:=h;obtain ⟨hk,Lo⟩:=Uu h1;exact ⟨k,o,p,hk,Lo hc rfl,h2,h3⟩
theorem MT.mo {h:DH}{K b:Nat}(x:MT K h ρ b):MO h ρ b:=by
 obtain ⟨k,o,p,_,h1,h2,h3⟩:=x;exact ⟨k,o,p,h1,h2,h3⟩
theorem Ag.hide (H:Ag P Γ N (hc++T) ρ w):Ag P Γ (fun b=>N b∨MO hc (ρ.take hc.length) b) (hid hc.length T) ρ w:=by
 have sp: ∀ b,MO (hc++T) ρ b↔MO hc (ρ.take hc.length) b∨MT hc.length (hc++T) ρ b:=fun b=>by
  have:=MO.split (h:=hc++T) (ρ:=ρ) hc.length b
  rwa [zGz] at this
  rfl
 have dis: ∀ b,MO hc (ρ.take hc.length) b -> ¬ MT hc.length (hc++T) ρ b:=by
  rintro b ⟨k,o,p,q1,q2,q3⟩ ⟨k',o',p',g1,g2,g3,g4⟩;rw [zFW] at q2;split at q2
  ·rename_i hk;exact H.dis k k' o o' p p' b (by omega) (by rw [zBc (by omega)];exact q1) g2 q2 g3 q3 g4
  ·cases q2
 have Q7: ∀ b,MS (fun b=>N b∨MO hc (ρ.take hc.length) b) (hid hc.length T) ρ b -> MS N (hc++T) ρ b:=fun b hb=>by
  rcases hb with (hb | hb) | hb
  ·exact .inl hb
  ·exact .inr ((sp b).2 (.inl hb))
  ·exact .inr (MO.hid hb).mo
 refine ⟨by rw [H.len];simp [hid],fun k o hk=>?_,fun k o p b g1 g2 g3=>?_,fun i i' o o' p p' b AR g1 g2 g3 g4 g5 g6=>H.dis i i' o o' p p' b AR ((Uu g1).2 hc rfl) ((Uu g2).2 hc rfl) g3 g4 g5 g6,fun b hb=>?_,H.gi⟩
 ·obtain ⟨p,hp,hr⟩:=H.obj k o ((Uu hk).2 hc rfl);exact ⟨p,hp,hr.out (Dk Q7 ρ) (S:=fun _=>False) (AN.refl _ _) (fun _ h=>h.elim) fun _ _ _ h=>h⟩
 ·obtain ⟨hk,oh⟩:=Uu g1;obtain ⟨c1,c2,c3⟩:=H.cel k o p b (oh hc rfl) g2 g3;exact ⟨c1,fun hb=>hb.elim c2 fun hb=>dis b hb ⟨k,o,p,hk,oh hc rfl,g2,g3⟩,c3⟩
 ·rcases hb with hb | hb
  ·exact H.nlt b hb
  ·obtain ⟨k,o,p,q1,q2,q3⟩:=(sp b).2 (.inl hb);obtain ⟨c1,_,c,t,z,c3⟩:=H.cel k o p b q1 q2 q3;exact ⟨(zAL.1 c3).1,c1⟩
variable {pv:Value} {gf m:Nat} {cap:Nat -> DV} {H4:DH} {ys:List (List DV)} {out:Option DV}
end
section
variable {P:Program} {Γ:Aj} {N:Nat -> Prop} {ρ:List AE} {a:Act} {w:World} {S:St} {Q:Exit -> Act -> World -> Prop} {fr:List DV} {h':DH} {c:List (DV×DH×Bool)} {o:List (Nat×DV)} {z:List (Nat×Fz)} {v v2:List Prop} {id:Nat} {ops:Array Oper}
def XU (L:Nat)(live σ ks:List Nat)(r:St×List Prop×BI):Option (List DV×DH×List Prop×List Prop×Bool):=match frzL ks (comp live σ r.1) with
 | some (S,w)=>some (S.fr,S.h,r.2.1,w,J5 σ L r.1.h.length)
 | none=>none
theorem lq {L:Nat}{live σ ks:List Nat}{r:St×List Prop×BI}(h:XU L live σ ks r=some (fr,h',v,v2,true))(hz:BY v2):r.2.1=v/\ At L r.1 ⟨fr,h'⟩:=by
 unfold XU at h;split at h
 ·rename_i S1 w1 hf;simp only [zCW,zDU] at h;obtain ⟨rfl,rfl,rfl,rfl,hs⟩:=h;exact ⟨rfl,(At.comp live σ r.1 hs).trans (At.frzL ks hf hz)⟩
 ·cases h
theorem wr {L:Nat}(hX:HX Fence.wide P)(live σ ks:List Nat)(hl:HS c o z v)(hz:HS [] [] [] v2)(fr:List DV)(h':DH)(R:AP P Γ N S ρ a w)(h:(Dy P Γ ops ops.toList S ⟨c,o,z,[]⟩).bind (XU L live σ ks)=some (fr,h',v,v2,true))(As:Cu ops=true) 
 (hk: ∀ ρ' a' w',AP P Γ N ⟨fr,h'⟩ ρ' a' w' -> Ap S.h ρ w h' ρ' w' -> a'.defers=a.defers -> B0 L ρ ρ' -> Q .normal a' w'):(Code.region id ops false).wpIn Fence.wide 0 P Q a w:=by
 obtain ⟨⟨S1,v1,o1⟩,hr,h⟩:=GA h;obtain ⟨rfl,hs⟩:=lq h hz.all;refine zFw (Ki hX.f As _ (fun o ho=>by simpa using ho) R hr hl.all fun ρ' a' w' R' st hd=>?_);obtain ⟨ρ2,R2,s2,k2⟩:=hs P Γ N ρ' a' w' R';exact hk ρ2 a' w' R2 (st.st.trans s2) hd (B0.trans (fun k p _ hp=>st.pl k p hp) k2)
theorem Zf {L:Nat}(hX:HX Fence.wide P)(early:List Nat)(t:ST)(hB:Bs ops early t)(tg:List (List (Nat×Nat)×St))(live σ ks:List Nat)(hl:HS c o z v)(hz:HS [] [] [] v2)(fr:List DV)(h':DH)(R:AP P Γ N S ρ a w)(h:(Sn P Γ ops early t S ⟨c,o,z,tg⟩).bind (XU L live σ ks)=some (fr,h',v,v2,true)) 
 (hk: ∀ ρ' a' w',AP P Γ N ⟨fr,h'⟩ ρ' a' w' -> Ap S.h ρ w h' ρ' w' -> a'.defers=a.defers -> B0 L ρ ρ' -> Q .normal a' w'):(Code.region id ops true).wpIn Fence.wide 0 P Q a w:=by
 obtain ⟨⟨S1,v1,o1⟩,hr,h⟩:=GA h;obtain ⟨rfl,hs⟩:=lq h hz.all;simp only [Bs,zAO] at hB;obtain ⟨⟨h1,h2⟩,h3⟩:=hB;unfold Sn at hr;split at hr
 ·cases hr
 split at hr
 ·cases hr
 ·rename_i hV;cases hr;have hE:Am w w.drew:=Am.toDrew w;refine gR (gQ hX.m (zF6 _) ((g9 hX.f h3 h2 t ops.size _ po (R.ext hE) hV hl.all fun ρ' a' w' R' st Uo Db=>?_).1 h1));obtain ⟨ρ2,R2,s2,k2⟩:=hs P Γ N ρ' a' w' R';exact hk ρ2 a' w' R2 ((Ap.ext hE).trans (st.trans s2)) Db (B0.trans (fun k p _ hp=>Uo k p (by rw [←R.hr.len];exact (zAW.1 hp).1) hp) k2)
theorem zCu {h:DH}{ρ ρ':List AE}{w w':World}{d:DV}{v:Value}(h0:Ag P Γ N [] ρ w)(R:Ag P Γ N h ρ' w')(st:Ap [] ρ w h ρ' w')(hr:AI (MS N h ρ') w' d ρ' v)(hd:Fb d=true):B1 P Γ N [] ρ w true d [] v w':=by
 have e:ρ= []:=List.length_eq_zero_iff.1 h0.len;subst e;have hx:=Ml hd _ _ _ _ hr;have low: ∀ b,MO [] ([]:List AE) b -> False:=fun b ⟨k,_,_,q,_⟩=>by simp at q
 have hu:AN (fun _=>False) w w':=st.upd.mono fun b _ hb=>low b hb
 refine ⟨⟨[],⟨rfl,fun k o hk=>by simp at hk,fun k o p b hk=>by simp at hk,fun k k' o o' p p' b _ hk=>by simp at hk,R.nlt,R.gi⟩,?_,⟨hu.mono fun _ _ h=>h.elim,fun b hb=>(low b hb).elim⟩,fun k p hk=>by simp at hk⟩,fun _=>hu.toExt fun _ _ h=>h⟩;exact hx.out _ ⟨fun _ _ _ _=>rfl,fun b hb=>.inl (hb.imp id fun h=>(low b h).elim),fun k p hk=>by simp at hk⟩
end
theorem ra {P:Program}{Q:Exit -> Act -> World -> Prop}{a:Act}{w:World}{ops:Array Oper}{id t g:Nat}{o0 o1:Oper}{HN:Array Operand}{tp:Array TypeId}(hl:ops.toList= [o0,o1])(h0:o0.op= .makeFunc (.func g) #[] HN)(EN:o0.dst=some t)(Kd:o0.guard=none)(h1:o1.op= .defer { callee:=.value (.tmp t),args:=#[],argTypes:=tp })(FL:o1.dst=none)(Uv:o1.guard=none)(ht:t<a.tmps.size) 
 (hQ: ∀ a',a'.tmps=a.tmps.setIfInBounds t (.func (.func g) #[] (HN.map a.eval)) -> a'.defers= { target:=.fn (.func g) (HN.map a.eval),args:=#[] }::a.defers -> Q .normal a' w):(Code.region id ops false).wpIn Fence.wide 0 P Q a w:=by
 refine zFw ?_;rw [hl];simp only [wpListIn,Oper.wpIn,Region.wanted,Kd,Uv,zFV];refine ⟨fun _ _=>trivial,?_⟩
 have e0:(o0.semAt Fence.wide.round a.eval).run P w= .ok (.value (.func (.func g) #[] (HN.map a.eval))) w:=by
  rw [zFp _ _ _ (by rw [h0];intro c e;cases e)];unfold execOp;rw [h0];simp only [zBx,Array.map_empty];simp [go_sem]
 rw [e0,Oper.uponIn_value];refine ⟨fun _ _=>trivial,?_⟩;obtain ⟨a2,NF⟩: ∃ a2,a2=a.put o0.dst (.func (.func g) #[] (HN.map a.eval)):=⟨_,rfl⟩;rw [←NF]
 have ev:a2.eval (.tmp t)= .func (.func g) #[] (HN.map a.eval):=by
  rw [NF,EN];simp [Act.eval,Act.put,ht]
 have e1:(o1.semAt Fence.wide.round a2.eval).run P w= .ok (.defer { target:=.fn (.func g) (HN.map a.eval),args:=#[] }) w:=by
  show (o1.semAt none a2.eval).run P w=_
  rw [Oper.semAt_none];unfold execOp;rw [h1];simp only [resolve,ev];simp [Deferred.ofValue,go_sem]
 rw [e1,Oper.uponIn_defer,FL]
 have:Act.put { a2 with defers:={ target:=.fn (.func g) (HN.map a.eval),args:=#[] }::a2.defers } none undef= { tmps:=a.tmps.setIfInBounds t (.func (.func g) #[] (HN.map a.eval)),defers:={ target:=.fn (.func g) (HN.map a.eval),args:=#[] }::a.defers }:=by
  rw [NF,EN];rfl
 rw [this];exact hQ _ rfl rfl
theorem AP.idle {P:Program}{Γ:Aj}{N:Nat -> Prop}{fr:List DV}{h:DH}{ρ:List AE}{a a':Act}{w:World}(R:AP P Γ N ⟨fr,h⟩ ρ a w)(t:Nat){v:Value}(ha:a'.tmps=a.tmps.setIfInBounds t v)(e:fr.set t .any=fr):AP P Γ N ⟨fr,h⟩ ρ a' w:=by
 refine ⟨R.hr,?_⟩;have:=R.fr.set t (d:=.any) (v:=v) trivial;rw [ha]
 show A0 _ _ _ fr _
 have e':A0 (MS N h ρ) w ρ (fr.set t .any) (a.tmps.setIfInBounds t v):=this
 rwa [e] at e'
theorem fA {P:Program}{Γ:Aj}{N:Nat -> Prop}{h h':DH}{ρ ρ':List AE}{w w':World}{D:Nat}(H:Ag P Γ N h ρ w)(st:Ap h ρ w h' ρ' w')(hD:w.heap[D]? =some (.deferred (some []))):w'.heap[D]? =some (.deferred (some [])):=by
 refine (st.upd.block D (zAL.1 hD).1 ?_).trans hD;rintro ⟨k,o,p,h1,h2,h3⟩;obtain ⟨_,_,c,t,z,h4⟩:=H.cel k o p D h1 h2 h3;rw [hD] at h4;cases h4;cases t
theorem AP.forg {P:Program}{Γ:Aj}{N:Nat -> Prop}{fr fr':List DV}{h:DH}{ρ:List AE}{a a':Act}{w:World}(live:List Nat)(R:AP P Γ N ⟨fr,h⟩ ρ a w)(ha:a'.tmps=a.tmps)(e:forget live fr=fr'):AP P Γ N ⟨fr',h⟩ ρ a' w:=by
 subst e;refine ⟨R.hr,?_⟩;rw [ha];refine ⟨(VH live fr).trans R.fr.1,fun i hi=>?_⟩;have hi:i<fr.length:=by rw [←VH live fr];exact hi
 show AI _ _ ((forget live fr).getD i .any) _ _
 rw [eO live fr hi];split
 ·exact R.fr.2 i hi
 ·trivial
theorem GX {P:Program}{Γ:Aj}{N:Nat -> Prop}{h h':DH}{ρ ρ':List AE}{w w':World}{L:Nat}{fr:List DV}{t:Array Value}(F:A0 (MS N h ρ) w ρ fr t)(B3:fr.all (Ck L)=true)(H':Ag P Γ N h' ρ' w')(st:Ap h ρ w h' ρ' w')(kp:B0 L ρ ρ'):A0 (MS N h' ρ') w' ρ' fr t:=
 (F.take B3).out ⟨fun b hb hm _=>st.upd.block b hb fun hx=>hm (.inr hx),fun b hb=>hb.elim (fun h=>.inl (.inl h)) fun h=>(st.grow b h).imp .inr id,fun k p hp=>by
  rw [zFW] at hp;split at hp
  ·rename_i hk;exact kp k p hk hp
  ·cases hp⟩
theorem VL {P:Program}{Γ:Aj}{N:Nat -> Prop}{S:St}{ρ ρ0:List AE}{a:Act}{w0 W:World}{fn:Func}(R:AP P Γ N S ρ a W)(h0:Ag P Γ N [] ρ0 w0)(st:Ap [] ρ0 w0 S.h ρ W)(ks:List Nat){ws:List Prop}(hz:HS [] [] [] ws)(rs:List DV){d:DV}(hd:AL (Hs rs) d) 
 (hf:(frzL ks S).bind (fun q=>(Me P q.1 fn.results.toList).map fun r=>(r,q.2))=some (rs,ws)) (hn:Fb d=true): ∃ v,(results fn a.tmps).run P W= .ok v W/\ B1 P Γ N [] ρ0 w0 true d [] v W:=by
 obtain ⟨⟨S2,w2⟩,h1,h2⟩:=GA hf;obtain ⟨r,h3,h4⟩:=Qx h2;cases h4;obtain ⟨ρ2,R2,s2,_⟩:=At.frzL (L:=0) ks h1 hz.all P Γ N ρ a W R;obtain ⟨v,g1,g2⟩:=Ww R2 h3;exact ⟨v,g1,zCu h0 R2.hr (st.trans s2) (hd _ _ _ _ g2) hn⟩
section
variable {P:Program} {Γ:Aj} {N:Nat -> Prop} {ρ:List AE} {w:World} {hc T:DH} {gf m:Nat} {cap:Nat -> DV} {ys:List (List DV)} {tD:Bool -> DV}
def jD (J:Nat -> (Nat -> Prop) -> (Nat -> Prop) -> World -> Prop)(Jx:(Nat -> Prop) -> (Nat -> Prop) -> World -> Prop)(Jp:List PanicEntry -> (Nat -> Prop) -> (Nat -> Prop) -> World -> Prop):Ys -> (Nat -> Prop) -> (Nat -> Prop) -> World -> Prop
 | .go i=>J i
 | .stop=>Jx
 | .pan c=>Jp c
theorem YW.iterW (H:YW P Γ tD gf (fun l=>.yl l::(List.range m).map cap) (fun _=>hc) ys)(HR:Ag P Γ N (hc++T) ρ w)(BF:hc.all (Ry hc.length)=true)(dl:((List.range m).map cap).all (Ck hc.length)=true) 
 {lb:Array Value} (hs:lb.size=m) (M9: ∀ j,j<m -> ∃ u,lb[j]? =some u/\ AI (MS N (hc++T) ρ) w (cap j) ρ u):
 SU False False P gf lb YV ys (fun e _ _ _=>∃ v,e= .returned v) (MO hc (ρ.take hc.length)) (fun b=>b<w.heap.size/\ ¬ MS N (hc++T) ρ b) w:=by
 intro l Jj Jx Jp W hJ hJx hJp hU hY eE M7 JW
 let C:D5 P:=⟨l,ys,jD Jj Jx Jp,fun s=>by
  cases s with
  | go i=>exact hJ i
  | stop=>exact hJx
  | pan c=>exact hJp c,fun i x args G R W1 h1 h2 h3 h4=>YieldAt.mono (hY i x args G R W1 h1 h2 h3 h4) fun e W' ⟨q1,q2⟩=>⟨q1,by
   rcases q2 with ⟨rfl,q⟩ | ⟨rfl,q⟩ | ⟨c,rfl,q⟩
   ·exact ⟨.go (i+1),⟨rfl,rfl⟩,q⟩
   ·exact ⟨.stop,rfl,q⟩
   ·exact ⟨.pan c,rfl,q⟩⟩⟩
 obtain ⟨EB,hM⟩:=HR.take (K:=hc.length) (by simp) (by rw [zGz rfl];exact BF);rw [zGz rfl] at EB hM;have CR:Γ.ng<=w.heap.size:=Γ.lo _ HR.gi
 have hu:AN (fun b=>N b∨MT hc.length (hc++T) ρ b) w W:=hU.mono fun b AK hx=>by
  by_cases hm:MS N (hc++T) ρ b
  ·rcases (hM b).2 hm with hm | hm
   ·exact hm
   ·exact absurd (.inl hm) hx
  ·exact absurd (.inr ⟨AK,hm⟩) hx
 have lo: ∀ b,b<Γ.ng -> b<w.heap.size/\ ¬ MS N (hc++T) ρ b:=fun b hb=>⟨by omega,fun hx=>by
  have:=(HR.lt2 hx).2;omega⟩
 have AK: ∀ b,MO hc (ρ.take hc.length) b -> b<w.heap.size:=fun b hb=>(HR.lt2 ((hM b).1 (.inr hb))).1
 have oO: ∀ b,N b∨MT hc.length (hc++T) ρ b -> (N b∨MT hc.length (hc++T) ρ b)/\ Γ.ng<=b:=fun b hb=>⟨hb,(EB.nlt b hb).2⟩
 have U5: ∀ b,(b<W.heap.size/\ ¬ MO hc (ρ.take hc.length) b/\ ¬ (b<w.heap.size/\ ¬ MS N (hc++T) ρ b)) -> (N b∨MT hc.length (hc++T) ρ b)∨w.heap.size<=b:=fun b ⟨_,q2,q3⟩=>by
  rcases zCb b w.heap.size with hx | hx
  ·by_cases hm:MS N (hc++T) ρ b
   ·exact .inl (((hM b).2 hm).resolve_right q2)
   ·exact absurd ⟨hx,hm⟩ q3
  ·exact .inr hx
 have HW:Ag P Γ (fun b=>b<W.heap.size/\ ¬ MO hc (ρ.take hc.length) b/\ ¬ (b<w.heap.size/\ ¬ MS N (hc++T) ρ b)) hc (ρ.take hc.length) W:=EB.foreign hu oO U5 fun b hb=>⟨hb.1,zF3 fun hl=>hb.2.2 (lo b hl)⟩
 have eL:A0 (MS (fun b=>N b∨MT hc.length (hc++T) ρ b) hc (ρ.take hc.length)) w (ρ.take hc.length) ((List.range m).map cap) lb:=by
  have e:MS (fun b=>N b∨MT hc.length (hc++T) ρ b) hc (ρ.take hc.length)=MS N (hc++T) ρ:=funext fun b=>propext (hM b)
  rw [e];refine A0.take ⟨by simp [hs],fun j hj=>?_⟩ dl;have BM:j<m:=by simpa using hj
  obtain ⟨u,q1,q2⟩:=M9 j BM;have e1:((List.range m).map cap).getD j .any=cap j:=by simp [BM]
  have e2:lb.getD j undef=u:=by rw [zBs,q1];rfl
  rw [e1,e2];exact q2
 have eM:=eL.out (BH.foreign (Γ:=Γ) hu oO U5)
 refine (H.2 C 0 ⟨[],by simp [C]⟩ _ _ _ W _ _ HW (A0.append (l:=[.yl C.l]) (t:=#[.func (.yield l) #[] #[]]) ⟨rfl,fun j hj=>by
  have:j=0:=Nat.lt_one_iff.1 hj;subst this;rfl⟩ eM) eE ⟨⟨fun b hb hr=>hr.2 ((hM b).1 (.inr hb)),fun b hb=>zBa (hb.elim (AK b) fun h=>h.1) hU.size⟩,lo,fun _ h=>h,fun _=>Iff.rfl⟩).mono ?_
 rintro e w' ⟨s,N',ρ',G',R',P7,j',y',kp,ho⟩;refine ⟨G',R',y'.sh,?_⟩;cases s with
 | go k=>
  obtain ⟨rfl,v,rfl,_⟩:=ho;refine .inl ⟨?_,v,rfl⟩;simpa [C,jD] using j'
 | stop=>
  obtain ⟨v,rfl,_⟩:=ho;exact .inr (.inl ⟨⟨v,rfl⟩,j'⟩)
 | pan c=>exact .inr (.inr ⟨c,ho,j'⟩)
def zFY (J:DH -> Prop)(Jx:Exit -> DH -> Prop)(Jp:List PanicEntry -> DH -> Prop)(e:Exit)(h:DH):Prop:=(e= .normal/\ J h)∨((Jh e).isSome=true/\ Jx e h)∨∃ c,e= .panic c/\ Jp c h
theorem wQ {fi:FuncId}{fr:List DV}{a:Act}{g:Operand}{ps:Array Tmp}{assign body:Code}{J:Nat -> DH -> Prop}{Jx:Exit -> DH -> Prop}{Jp:List PanicEntry -> DH -> Prop}{KK:Nat}{Q:Exit -> Act -> World -> Prop}(PU: ∃ f,P.funcs[fi]? =some f)(R:AP P Γ N ⟨fr,hc++T⟩ ρ a w)(hg:AT fr g= .fn gf m cap) 
 (H:YW P Γ tD gf (fun l=>.yl l::(List.range m).map cap) (fun _=>hc) ys) (BF:hc.all (Ry hc.length)=true) (dl:((List.range m).map cap).all (Ck hc.length)=true)
 (Dw: ∀ x∈ys,x.length=ps.size) (B3:fr.all (Ck KK)=true) (h0:J 0 (hid hc.length T)) (C7:ZW P Γ fr ps.toList assign body KK J Jx Jp ys)
 (hQ: ∀ (D:Nat) (e:Exit) (h':DH) (ρ':List AE) (w':World),zFY (J ys.length) Jx Jp e h' -> AP P Γ N ⟨fr,h'⟩ ρ' a w' -> Ap (hc++T) ρ w h' ρ' w' -> B0 KK ρ ρ' -> w'.heap[D]? =some (.deferred (some [])) -> w.heap.size<=D ->
  Q e { a with defers:={ target:=.collected D,args:=#[] }::a.defers } w'):II Fence.wide 0 P fi (.rangeFunc g ps assign body) Q a w:=by
 have hx:=BO R g;rw [hg] at hx;obtain ⟨lb,hv,hs,M9⟩:=hx;have HR:Ag P Γ N (hc++T) ρ w:=R.hr;have CR:Γ.ng<=w.heap.size:=Γ.lo _ HR.gi
 have sp: ∀ b,MO (hc++T) ρ b↔MO hc (ρ.take hc.length) b∨MT hc.length (hc++T) ρ b:=fun b=>by
  have:=MO.split (h:=hc++T) (ρ:=ρ) hc.length b
  rwa [zGz] at this
  rfl
 have hN: ∀ b,N b -> b<w.heap.size/\ ¬ MO (hc++T) ρ b:=fun b hb=>⟨(HR.nlt b hb).1,fun ⟨k,o,p,q1,q2,q3⟩=>(HR.cel k o p b q1 q2 q3).2.1 hb⟩
 have AK: ∀ b,MO (hc++T) ρ b -> b<w.heap.size/\ Γ.ng<=b:=fun b hb=>HR.lt2 (.inr hb)
 have He:Dq (MO hc (ρ.take hc.length)) (fun b=>b<w.heap.size/\ ¬ MS N (hc++T) ρ b) w:=⟨fun b hb hr=>hr.2 (.inr ((sp b).2 (.inl hb))),fun b hb=>hb.elim (fun h=>(AK b ((sp b).2 (.inl h))).1) fun h=>h.1⟩
 have Yc:RJ P Γ N (hc++T) ρ w KK J 0 (MO hc (ρ.take hc.length)) (fun b=>b<w.heap.size/\ ¬ MS N (hc++T) ρ b) w:=
  ⟨_,ρ,h0,HR.hide,AN.refl _ _,fun b hb=>.inl (MO.hid hb).mo,fun b hb=>⟨(AK b ((sp b).2 (.inl hb))).2,.inl ((sp b).2 (.inl hb))⟩,fun b hb=>⟨fun hn=>hb.2 (.inl hn),fun hm=>hb.2 (.inr (MO.hid hm).mo)⟩,B0.refl _ _⟩
 have hst: ∀ i,Ce (RJ P Γ N (hc++T) ρ w KK J i):=fun i G R' G' R2 A C ⟨h,ρ',h1,h2⟩ q1 q2 q3 q4 q5 q6=>⟨h,ρ',h1,RI.stable CR hN _ _ _ _ _ _ h2 q1 q2 q3 q4 q5 q6⟩
 have YF: ∀ c,Ce (RX P Γ N (hc++T) ρ w KK Jx c):=fun c G R' G' R2 A C ⟨e,he,h,ρ',h1,h2⟩ q1 q2 q3 q4 q5 q6=>⟨e,he,h,ρ',h1,RI.stable CR hN _ _ _ _ _ _ h2 q1 q2 q3 q4 q5 q6⟩
 have hsp: ∀ c,Ce (rB P Γ N (hc++T) ρ w KK Jp c):=fun c G R' G' R2 A C ⟨h,ρ',h1,h2⟩ q1 q2 q3 q4 q5 q6=>⟨h,ρ',h1,RI.stable CR hN _ _ _ _ _ _ h2 q1 q2 q3 q4 q5 q6⟩
 have eg: ∀ args w,(callFunc gf args).run P w= .ok (.enter gf args) w:=H.1;have stp: ∀ {G R':Nat -> Prop} {W:World} {h:DH} {ρ':List AE},RI KK P Γ N (hc++T) ρ w G R' W h ρ' -> Ap (hc++T) ρ w h ρ' W:=fun hR=>⟨hR.upd,hR.grow⟩
 have JJ: ∀ {G R':Nat -> Prop} {W:World} {h:DH} {ρ':List AE},RI KK P Γ N (hc++T) ρ w G R' W h ρ' -> AP P Γ N ⟨fr,h⟩ ρ' a W:=fun hR=>⟨hR.hrel,hR.frame (S:=⟨fr,hc++T⟩) R (fun _ h=>h) B3⟩
 refine gU (nv:=False) (np:=False) (.inr PU) hv eg (H.iterW HR BF dl hs M9) He (fun x hx R W args h=>h.1.symm.trans (Dw x hx)) _ _ _ hst YF hsp (fun h=>h.elim) (fun h=>h.elim) Yc (aa R hN (fun _ h=>h) B3 C7) ?_ ?_ ?_
 ·rintro D e G R1 own W W' ⟨v,rfl⟩ ⟨h,ρ1,h1,hR⟩ _ _ _ hD GR;exact hQ D .normal h ρ1 W' (.inl ⟨rfl,h1⟩) (JJ hR) (stp hR) hR.kept hD GR
 ·rintro D c G R1 W ⟨e,he,h,ρ',h1,hR⟩ hD GR;cases e with
  | ret=>cases he;exact zHA (hQ D .ret h ρ' W (.inr (.inl ⟨rfl,h1⟩)) (JJ hR) (stp hR) hR.kept hD GR)
  | exit id=>cases he;exact wpIn_exit (hQ D (.exit id) h ρ' W (.inr (.inl ⟨rfl,h1⟩)) (JJ hR) (stp hR) hR.kept hD GR)
  | normal=>cases he
  | goto t=>cases he
  | panic c=>cases he
  | outgrown=>cases he
 ·rintro D c G R1 W ⟨h,ρ',h1,hR⟩ hD GR;exact hQ D (.panic c) h ρ' W (.inr (.inr ⟨c,rfl,h1⟩)) (JJ hR) (stp hR) hR.kept hD GR
theorem vg {α σ:Type}{fr:List DV}{ps:List Tmp}{assign body:Code}{K:Nat}(ex:List Exit)(Iq:(ex.all fun e=>(Jh e).isSome)=true)(pc:List PanicEntry)(enc:α -> List DV)(ys:List α)(f:α -> σ -> Option (σ×Nat))(HH:σ -> DH){rE:σ×Nat}(FR:α -> List DV) 
 (C7: ∀ (l B:Nat) (N:BB P Γ K) (x:α) (s:σ) (r:σ×Nat),f x s=some r -> Gb P Γ (Fence.wide.inRound l) (some B) K N (Cf K (ex++[.panic pc]) r.2 (HH r.1)) assign body ⟨FR x,HH s⟩) (hni: ∀ s,(HH s).all UF=true) (B3:(fun x=>IN fr ps (enc x))=FR):
 ZW P Γ fr ps assign body K (fun i h=>∃ s,CN f (ys.drop i) s=some rE/\ h=HH s) (fun e h=>(Exit.normal::ex)[rE.2]? =some e/\ h=HH rE.1) (fun c h=>c=pc/\ rE.2=ex.length+1/\ h=HH rE.1) (ys.map enc):=by
 subst B3;rintro l' B' N' i x h hx ⟨s,hs,rfl⟩;rw [zBt] at hx;cases hy:ys[i]? with
 | none=>rw [hy] at hx;cases hx
 | some y=>
  rw [hy] at hx;cases hx;have AK:=(zAW.1 hy).1
  have hd:ys.drop i=y::ys.drop (i+1):=by
   rw [zBw AK]
   congr 1
   exact (zAW.1 hy).2
  rw [hd] at hs;obtain ⟨r,h1,h2⟩:=GA hs
  have fin: ∀ {e:Exit} {S2:St},Cf K (ex++[.panic pc]) r.2 (HH r.1) e S2 -> rA K (fun h=>∃ s,CN f (ys.drop (i+1)) s=some rE/\ h=HH s) (fun e h=>(Exit.normal::ex)[rE.2]? =some e/\ h=HH rE.1) (fun c h=>c=pc/\ rE.2=ex.length+1/\ h=HH rE.1) e S2:=by
   rintro e S2 ⟨r1,S3,r2,r3⟩;cases hc:r.2 with
   | zero=>
    rw [hc] at r1;cases r1
    have h2:CN f (ys.drop (i+1)) r.1=some rE:=by
     have e0:(r.2==0)=true:=by rw [hc];rfl
     rw [e0] at h2;exact h2
    exact .inl ⟨S3,r2,.inl ⟨rfl,r.1,h2,r3⟩⟩
   | succ k=>
    have h2:r=rE:=by
     have e0:(r.2==0)=false:=by rw [hc];rfl
     rw [e0] at h2;exact zAV h2
    subst h2;rw [hc] at r1;rcases zCb k ex.length with hk | hk
    ·have OP:ex[k]? =some e:=by
      have:(ex++[Exit.panic pc])[k]? =some e:=r1
      rwa [zBc hk] at this
     have hx:=zAX.1 Iq e (zB9 OP);exact .inl ⟨S3,r2,.inr ⟨hx,by rw [hc];exact OP,r3⟩⟩
    ·have OP:(ex++[Exit.panic pc])[k]? =some e:=r1;rw [zBg hk] at OP
     have YQ:k-ex.length=0:=by
      have:=(zAW.1 OP).1;simp at this;omega
     rw [YQ] at OP;cases OP;exact .inr ⟨pc,S3,rfl,r2,by rw [r3];exact Og (hni _),rfl,by rw [hc];omega,r3⟩
  refine Tr.mono (C7 l' B' N' y s r h1) fun e S2 Y2 hq=>?_
  cases e with
  | normal=>exact ⟨hq.1,fun N2=>Tr.mono (show Tr P Γ (Fence.wide.inRound l') (some B') K N2 body S2 (stay N2 (Cf K (ex++[.panic pc]) r.2 (HH r.1))) from hq.2 N2) fun e S3 Y3 h3=>⟨h3.1,fin h3.2⟩⟩
  | ret=>exact hq.elim
  | exit id=>exact hq.elim
  | goto t=>exact hq.elim
  | panic c=>exact hq.elim
  | outgrown=>exact hq.elim
end
def GY:Value:=.iface 30 (.int .i64 220)
section
variable {F:Fence} {B:Option Nat} {L:Nat} {Y N:BB Tryz.prog GG L} {Q:QY Tryz.prog GG L}
theorem Qm {S:St}{e:List PanicEntry}(h:Q (.panic e) S Y): ∀ (k:List KI),A6 Tryz.prog GG F B L Q k (.panic e) S Y
 | []=>h
 | .blk _::k=>Qm h k
 | .code _::k=>Qm h k
 | .lend _::k=>Qm h k
 | .scp::k=>Qm h k
 | .loopN _ _::k=>Qm h k
theorem w5 [hX:HC F] {id t:Nat} {ty:TypeId} {ops:Array Oper} {o0 o1:Oper} {k:List KI} {S:St} {x:Value} (hl:ops.toList= [o0,o1]) (h0:o0.op= .makeInterface ty (.const x)) (EN:o0.dst=some t) (Kd:o0.guard=none) (h1:o1.op= .panic (.tmp t)) (Uv:o1.guard=none) (ht:Nat.blt t S.fr.length=true) (hc:Tryz.prog.concrete ty=true)
 (hq:Q (.panic (pan (.iface ty x))) ⟨Ko S.fr,S.h⟩ Y):An Tryz.prog GG F B L Y Q (.code (.region id ops false)::k) S:=by
 show Tr Tryz.prog GG F B L Y (.region id ops false) S _
 intro N ρ a w R y m b
 have hts:t<a.tmps.size:=by
  have:=R.fr.1;have:=zCo ht;omega
 refine zFw ?_;rw [hl];simp only [wpListIn,Oper.wpIn,Region.wanted,Kd,Uv,zFV];refine ⟨fun f _=>hX.x.f.fn f,?_⟩
 have e0:(o0.semAt F.round a.eval).run Tryz.prog w= .ok (.value (.iface ty x)) w:=by
  rw [zFp _ _ _ (by rw [h0];intro c e;cases e)];unfold execOp;rw [h0];have:=run_makeInterface (P:=Tryz.prog) w ty x hc;simp [go_sem,this]
 rw [e0,Oper.uponIn_value];refine ⟨fun f _=>hX.x.f.fn f,?_⟩;obtain ⟨a2,NF⟩: ∃ a2,a2=a.put o0.dst (.iface ty x):=⟨_,rfl⟩;rw [←NF]
 have ev:a2.eval (.tmp t)= .iface ty x:=by
  rw [NF,EN];simp [Act.eval,Act.put,hts]
 have e1:(o1.semAt F.round a2.eval).run Tryz.prog w= .halt (.panic (.iface ty x)) w:=by
  rw [zFp _ _ _ (by rw [h1];intro c e;cases e)];unfold execOp;rw [h1];have hv:a2.eval (.tmp t)= .iface ty x:=ev;simp only [hv];simp [go_sem]
 rw [e1,Oper.uponIn_panic];have hd:a2.defers=a.defers:=by rw [NF,EN];simp [Act.put]
 have hs:S.fr.length=a2.tmps.size:=by rw [NF,EN];simpa [Act.put] using R.fr.1
 exact ⟨⟨Ko S.fr,S.h⟩,ρ,N,Y,Qm hq k,⟨R.hr,qk hs⟩,y,by rw [hd];exact m,b⟩
theorem pX [hX:HC F] {ex:List Exit} {i:Nat} {h2:DH} {id t:Nat} {ty:TypeId} {ops:Array Oper} {o0 o1:Oper} {k:List KI} {fr:List DV} {x:Value} (he:(Exit.normal::ex)[i]? =some (.panic (pan (.iface ty x)))) (hl:ops.toList= [o0,o1]:=by rfl) (h0:o0.op= .makeInterface ty (.const x):=by rfl) (EN:o0.dst=some t:=by rfl) (Kd:o0.guard=none:=by rfl) (h1:o1.op= .panic (.tmp t):=by rfl) (Uv:o1.guard=none:=by rfl) (ht:Nat.blt t fr.length=true:=by kernel_rfl) (hc:Tryz.prog.concrete ty=true:=by kernel_rfl):BU Tryz.prog GG F B L N (Cf L ex i h2) (.code (.region id ops false)::k) ⟨fr,h2⟩:=
 w5 hl h0 EN Kd h1 Uv ht hc ⟨rfl,he,_,At.refl _ _,rfl⟩
end
def rC (f:FuncId)(ds:List DV)(pv:Value):Prop:=(∀ args W,(callFunc f args).run Tryz.prog W= .ok (.enter f args) W)/\ ∀ (N:Nat -> Prop) (ρ:List AE) (w:World) (args:Array Value),Ag Tryz.prog GG N [] ρ w -> A0 (MS N [] ρ) w ρ ds args -> CallsIn Fence.wide 0 Tryz.prog f args w fun e w'=>e= .panicked (pan pv)/\ Am w w'
section
variable {N:Nat -> Prop} {ρ:List AE} {a:Act} {w:World} {S:St} {Q:Exit -> Act -> World -> Prop} {fr:List DV} {h':DH} {c:List (DV×DH×Bool)} {o:List (Nat×DV)} {z:List (Nat×Fz)} {v:List Prop} {id:Nat} {ops:Array Oper}
theorem gM {g:FuncId}{ds:List DV}{pv:Value}{dst:Option Tmp}(H:rC g ds pv)(l1 l2:List Nat)(p:Nat)(hl:HS c o z v)(fr:List DV)(h':DH)(R:AP Tryz.prog GG N S ρ a w)(hr:(Vc Tryz.prog GG ops l1 p S ⟨c,o,z,[]⟩).map (XS (Fu 0 fr))=some (g,ds,dst,fr,h',v))(RG:List.range ops.size=l1++p::l2)(As:Cu ops=true)(Ey:ds.all (Ck 0)=true) 
 (hk: ∀ ρ' a' w',AP Tryz.prog GG N ⟨fr,h'⟩ ρ' a' w' -> Ap S.h ρ w h' ρ' w' -> a'.defers=a.defers -> B0 S.h.length ρ ρ' -> Q (.panic (pan pv)) a' w'):(Code.region id ops false).wpIn Fence.wide 0 Tryz.prog Q a w:=by
 obtain ⟨f1,Aa,hr,e0⟩:=ll hr;refine zFw ?_;rw [←lD,RG];unfold Vc at hr;split at hr
 ·cases hr
 rename_i S2 E4 GL h1;split at hr
 ·cases hr
 rename_i o ho;split at hr
 ·rename_i hw;split at hr
  ·rename_i c' PL;split at hr
   ·rename_i f U3;split at hr
    ·rename_i g' m' cap hf;simp only [zCW,zDU] at hr;obtain ⟨rfl,e2,rfl,rfl,rfl,rfl⟩:=hr;rw [Qk];have e3:CB ops (p::l2)=o::CB ops l2:=by simp only [CB,ho]
     rw [e3];refine RV (HC.x (F:=Fence.wide)).f As _ (OT l1) R h1 hl.all fun ρ1 a1 w1 R1 Br PY=>?_
     obtain ⟨args,KY,Ux⟩:=fN R1 o PL U3 hf H.1;rw [e2] at Ux;unfold wpListIn;rw [zAA (IJ R1 hw)];refine ⟨fun f _=>trivial,?_⟩;rw [zFp _ _ _ (Hc As ho),KY];obtain ⟨EB,hM⟩:=R1.hr.take (K:=0) (zFo _) (by rw [List.take_zero];rfl);rw [List.take_zero,List.take_zero] at EB hM
     have fa:A0 (MS (fun b=>N b∨MT 0 h' ρ1 b) [] []) w1 [] ds args:=by
      have e:MS (fun b=>N b∨MT 0 h' ρ1 b) [] []=MS N h' ρ1:=funext fun b=>propext (hM b)
      rw [e];exact Ux.take Ey
     refine ⟨fun hx=>(by cases hx),(H.2 _ _ _ _ EB fa).mono ?_⟩;rintro e w' ⟨rfl,hE⟩;have R2:AP Tryz.prog GG N ⟨fr,h'⟩ ρ1 a1 w':=(R1.ext hE).forg (fr':=fr) _ rfl e0.symm;exact hk ρ1 a1 w' R2 (Br.st.trans (Ap.ext hE)) PY fun k p _ hp=>Br.pl k p hp
    ·cases hr
   ·cases hr
  ·cases hr
 ·cases hr
theorem gh {P:Program}{g:Nat}{o0:Oper}{x:Operand}{tp:Array TypeId}(hl:ops.toList= [o0])(h0:o0.op= .defer { callee:=.value (.func g),args:=#[x],argTypes:=tp })(EN:o0.dst=none)(Kd:o0.guard=none) 
 (hQ: ∀ a',a'.tmps=a.tmps -> a'.defers= { target:=.fn (.func g) #[],args:=#[a.eval x] }::a.defers -> Q .normal a' w):(Code.region id ops false).wpIn Fence.wide 0 P Q a w:=by
 refine zFw ?_;rw [hl];simp only [wpListIn,Oper.wpIn,Region.wanted,Kd,zFV];refine ⟨fun _ _=>trivial,?_⟩
 have e1:(o0.semAt Fence.wide.round a.eval).run P w= .ok (.defer { target:=.fn (.func g) #[],args:=#[a.eval x] }) w:=by
  show (o0.semAt none a.eval).run P w=_
  rw [Oper.semAt_none];unfold execOp;rw [h0];simp only [resolve];simp [Deferred.ofValue,go_sem,Act.eval]
 rw [e1,Oper.uponIn_defer,EN];exact hQ _ rfl rfl
theorem Ms {P:Program}{fn:Func}{tmps:Array Value}{R:Ending -> World -> Prop}{g:Nat}{HN args qe:Array Value}{ds:List Deferred}{u:FrameMode}{w:World}(hu:u≠.run)(eg: ∀ args W,(callFunc g args).run P W= .ok (.enter g args) W)(hc:args++HN=qe) 
 (h:CallsDIn Fence.wide (0-1) P g qe u w fun
  | .returned _,u',w'=>LeavesInM Fence.wide 0 P fn tmps R ds (settle u') w'
  | .panicked I1,u',w'=>LeavesInM Fence.wide 0 P fn tmps R ds (raised u' I1) w'
  | .outgrown,_,w'=>R .outgrown w'):LeavesInM Fence.wide 0 P fn tmps R ({ target:=.fn (.func g) HN,args:=args }::ds) u w:=by
 subst hc;refine ⟨hu,.inr ⟨fun h=>(by cases h),.func g,HN,g,args++HN,rfl,?_,fun _ _=>trivial,h.mono fun e u' w' hq=>by cases e <;> exact hq⟩⟩;simp [invoke,go_sem,eg]
end
set_option maxRecDepth 100000
set_option maxHeartbeats 40000000
def xv (n:Nat)(q:AA)(pos:List Int):Option Unit:= some ()
def mC (n:Nat)(q:AA)(pos:List Int):Option Unit:=xv n q pos
theorem xu {n:Nat}(q:AA)(pos:List Int){r:Unit}(h:mC n q pos=some r):EQ 36 [.agg 5 (L1 (AG q)),.ints pos] [] (.fn 49 2 (L1 [.ref 0 0,.ref 1 0])) [oC (AG q),oC [.ints pos]] true:=by
 refine ot Tryz.func36 fun B N=>?_
 revert r;apply gO;exact lE AD [4] [0,1]
def im:ST:=.rd 0 (.rd 1 (.ef 2 (.ef 3 (.ef 4 (.fin [] [8,9,10]) (.no)) (.no)) (.no)))
theorem aG:Bs (A4 Tryz.f26 11) [2] im:=by unfold Bs;kernel_rfl
def Gm:Bi:=fun i=>match i with
 | 11=>.tre [2] im
 | _=>.no
def zA4 (most fuel:Int)(AM:Bc):DH:=[none,none,oC [.i most],oC [.i fuel],oC [.nils],oC [.nils],oC [.bool false],oC [.i AM.1.1,.i AM.1.2]]
def zA3 (most fuel:Int):DH:=[none,none,oC [.i most],oC [.i fuel],oC [.nils],oC [.nils],oC [.bool false]]
def iN (most fuel:Int)(AM:Bc):St:=⟨(AF 42 [(8,.ref 4 0),(9,.ref 5 0),(10,.ref 6 0)]),([none,none,oC [.i most],oC [.i (fuel-1)],oC [.msl 11 1 0 (([AM.2]:List (List Int)).length)],oC [.msl 9 2 0 (([(AM.1.1,AM.1.2)]:List (Int×Int)).length)],oC [.bool true],oC [.i AM.1.1,.i AM.1.2],some (.arr 2 (([(AM.1.1,AM.1.2)]:List (Int×Int)).length) (AO BA ([(AM.1.1,AM.1.2)]:List (Int×Int)))),some (.arr 2 (([(AM.1.1,AM.1.2)]:List (Int×Int)).length) (AO BA ([(AM.1.1,AM.1.2)]:List (Int×Int)))),some (.arr 1 (([AM.2]:List (List Int)).length) (AO Ac ([AM.2]:List (List Int)))),some (.arr 1 (([AM.2]:List (List Int)).length) (AO Ac ([AM.2]:List (List Int))))]:DH)⟩
def zA2 (most Ed:Int)(Ha:Nat)(Ct:List (Int×Int))(AM:Bc):DH:=[none,none,oC [.i most],oC [.i Ed],oC [.nils],oC [.msl 7 2 0 Ha],oC [.bool false],some (.arr 2 Ct.length (AO BA Ct)),oC [.i AM.1.1,.i AM.1.2]]
def zA1 (most Ed:Int)(Ha:Nat)(Ct:List (Int×Int)):DH:=[none,none,oC [.i most],oC [.i Ed],oC [.nils],oC [.msl 7 2 0 Ha],oC [.bool false],some (.arr 2 Ct.length (AO BA Ct))]
def iM (most Ed:Int)(AM:Bc)(Ct:List (Int×Int)):St:=⟨(AF 42 [(8,.ref 4 0),(9,.ref 5 0),(10,.ref 6 0)]),([none,none,oC [.i most],oC [.i (Ed-1)],oC [.msl 12 1 0 (([AM.2]:List (List Int)).length)],oC [.msl 10 2 0 (Ct.length+([(AM.1.1,AM.1.2)]:List (Int×Int)).length)],oC [.bool true],none,oC [.i AM.1.1,.i AM.1.2],some (.arr 2 (([(AM.1.1,AM.1.2)]:List (Int×Int)).length) (AO BA ([(AM.1.1,AM.1.2)]:List (Int×Int)))),some (.arr 2 ((Ct++([(AM.1.1,AM.1.2)]:List (Int×Int))).length) (AO BA (Ct++([(AM.1.1,AM.1.2)]:List (Int×Int))))),some (.arr 1 (([AM.2]:List (List Int)).length) (AO Ac ([AM.2]:List (List Int)))),some (.arr 1 (([AM.2]:List (List Int)).length) (AO Ac ([AM.2]:List (List Int))))]:DH)⟩
def zA0 (most Ec:Int)(Gw HZ:Nat)(Gv:Bool)(Cs:List (List Int))(Cr:List (Int×Int))(AM:Bc):DH:=[none,none,oC [.i most],oC [.i Ec],oC [.msl 7 1 0 Gw],oC [.msl 8 2 0 HZ],oC [.bool Gv],some (.arr 1 Cs.length (AO Ac Cs)),some (.arr 2 Cr.length (AO BA Cr)),oC [.i AM.1.1,.i AM.1.2]]
def zAz (most Ec:Int)(Gw HZ:Nat)(Gv:Bool)(Cs:List (List Int))(Cr:List (Int×Int)):DH:=[none,none,oC [.i most],oC [.i Ec],oC [.msl 7 1 0 Gw],oC [.msl 8 2 0 HZ],oC [.bool Gv],some (.arr 1 Cs.length (AO Ac Cs)),some (.arr 2 Cr.length (AO BA Cr))]
def iL (most Ec:Int)(Cs:List (List Int))(AM:Bc)(Cr:List (Int×Int)):St:=⟨(AF 42 [(8,.ref 4 0),(9,.ref 5 0),(10,.ref 6 0)]),([none,none,oC [.i most],oC [.i (Ec-1)],oC [.msl 13 1 0 (Cs.length+([AM.2]:List (List Int)).length)],oC [.msl 11 2 0 (Cr.length+([(AM.1.1,AM.1.2)]:List (Int×Int)).length)],oC [.bool true],none,none,oC [.i AM.1.1,.i AM.1.2],some (.arr 2 (([(AM.1.1,AM.1.2)]:List (Int×Int)).length) (AO BA ([(AM.1.1,AM.1.2)]:List (Int×Int)))),some (.arr 2 ((Cr++([(AM.1.1,AM.1.2)]:List (Int×Int))).length) (AO BA (Cr++([(AM.1.1,AM.1.2)]:List (Int×Int))))),some (.arr 1 (([AM.2]:List (List Int)).length) (AO Ac ([AM.2]:List (List Int)))),some (.arr 1 ((Cs++([AM.2]:List (List Int))).length) (AO Ac (Cs++([AM.2]:List (List Int)))))]:DH)⟩
inductive Gn where
 | s0
 | s1 (Ed:Int) (Ha:Nat) (Ct:List (Int×Int))
 | s2 (Ec:Int) (Gw HZ:Nat) (Gv:Bool) (Cs:List (List Int)) (Cr:List (Int×Int))
def TX (most fuel:Int):Gn -> DH
 | .s0=>[none,none,oC [.i most],oC [.i fuel],oC [.nils],oC [.nils],oC [.bool false]]
 | .s1 Ed Ha Ct=>[none,none,oC [.i most],oC [.i Ed],oC [.nils],oC [.msl 7 2 0 Ha],oC [.bool false],some (.arr 2 Ct.length (AO BA Ct))]
 | .s2 Ec Gw HZ Gv Cs Cr=>[none,none,oC [.i most],oC [.i Ec],oC [.msl 7 1 0 Gw],oC [.msl 8 2 0 HZ],oC [.bool Gv],some (.arr 1 Cs.length (AO Ac Cs)),some (.arr 2 Cr.length (AO BA Cr))]
def aQ (n:Nat)(most fuel:Int)(AM:Bc):Option (Gn×Nat):= bif (fuel==0) then some (.s0,2) else if AH (fuel-1) then bif (AM.1.1 != 4) then some (.s1 (fuel-1) (([(AM.1.1,AM.1.2)]:List (Int×Int)).length) ([(AM.1.1,AM.1.2)]:List (Int×Int)),0) else bif (((([AM.2]:List (List Int)).length:Nat):Int)==most) then some (.s2 (fuel-1) (([AM.2]:List (List Int)).length) (([(AM.1.1,AM.1.2)]:List (Int×Int)).length) true ([AM.2]:List (List Int)) ([(AM.1.1,AM.1.2)]:List (Int×Int)),1) else some (.s2 (fuel-1) (([AM.2]:List (List Int)).length) (([(AM.1.1,AM.1.2)]:List (Int×Int)).length) false ([AM.2]:List (List Int)) ([(AM.1.1,AM.1.2)]:List (Int×Int)),0) else none
def aP (n:Nat)(most fuel:Int)(AM:Bc)(Ed:Int)(Ha:Nat)(Ct:List (Int×Int)):Option (Gn×Nat):= bif (Ed==0) then some (.s1 Ed Ha Ct,2) else if AH (Ed-1)/\ Ha=Ct.length/\ Ct.length+([(AM.1.1,AM.1.2)]:List (Int×Int)).length<=A3 then bif (AM.1.1 != 4) then some (.s1 (Ed-1) (Ct.length+([(AM.1.1,AM.1.2)]:List (Int×Int)).length) (Ct++([(AM.1.1,AM.1.2)]:List (Int×Int))),0) else bif (((([AM.2]:List (List Int)).length:Nat):Int)==most) then some (.s2 (Ed-1) (([AM.2]:List (List Int)).length) (Ct.length+([(AM.1.1,AM.1.2)]:List (Int×Int)).length) true ([AM.2]:List (List Int)) (Ct++([(AM.1.1,AM.1.2)]:List (Int×Int))),1) else some (.s2 (Ed-1) (([AM.2]:List (List Int)).length) (Ct.length+([(AM.1.1,AM.1.2)]:List (Int×Int)).length) false ([AM.2]:List (List Int)) (Ct++([(AM.1.1,AM.1.2)]:List (Int×Int))),0) else none
def aO (n:Nat)(most fuel:Int)(AM:Bc)(Ec:Int)(Gw HZ:Nat)(Gv:Bool)(Cs:List (List Int))(Cr:List (Int×Int)):Option (Gn×Nat):= bif (Ec==0) then some (.s2 Ec Gw HZ Gv Cs Cr,2) else if AH (Ec-1)/\ HZ=Cr.length/\ Cr.length+([(AM.1.1,AM.1.2)]:List (Int×Int)).length<=A3 then bif (AM.1.1 != 4) then some (.s2 (Ec-1) Gw (Cr.length+([(AM.1.1,AM.1.2)]:List (Int×Int)).length) Gv Cs (Cr++([(AM.1.1,AM.1.2)]:List (Int×Int))),0) else if Gw=Cs.length/\ Cs.length+([AM.2]:List (List Int)).length<=A3 then bif ((((Cs.length+([AM.2]:List (List Int)).length):Nat):Int)==most) then some (.s2 (Ec-1) (Cs.length+([AM.2]:List (List Int)).length) (Cr.length+([(AM.1.1,AM.1.2)]:List (Int×Int)).length) true (Cs++([AM.2]:List (List Int))) (Cr++([(AM.1.1,AM.1.2)]:List (Int×Int))),1) else some (.s2 (Ec-1) (Cs.length+([AM.2]:List (List Int)).length) (Cr.length+([(AM.1.1,AM.1.2)]:List (Int×Int)).length) Gv (Cs++([AM.2]:List (List Int))) (Cr++([(AM.1.1,AM.1.2)]:List (Int×Int))),0) else none else none
def vS (n:Nat)(most fuel:Int)(AM:Bc):Gn -> Option (Gn×Nat)
 | .s0=>aQ n most fuel AM
 | .s1 Ed Ha Ct=>aP n most fuel AM Ed Ha Ct
 | .s2 Ec Gw HZ Gv Cs Cr=>aO n most fuel AM Ec Gw HZ Gv Cs Cr
def IR (n:Nat)(most fuel:Int)(AM:Bc)(s:Gn):Option (Gn×Nat):=vS n most fuel AM s
theorem vR (n:Nat)(most fuel:Int)(l B:Nat)(N:Yd 7)(AM:Bc)(s:Gn)(r:Gn×Nat)(h:IR n most fuel AM s=some r):TA l B N (Cf 7 [.ret,.panic (pan GY)] r.2 (TX most fuel r.1)) Tryz.f26 15 ⟨AF 42 [(6,.ref 2 0),(7,.ref 3 0),(8,.ref 4 0),(9,.ref 5 0),(10,.ref 6 0),(15,.fn 49 2 (L1 [.ref 0 0,.ref 1 0])),(16,.agg 2 (L1 [.i AM.1.1,.i AM.1.2])),(17,.ints AM.2)],TX most fuel s⟩:=by
 cases s with
 | s0=>
  refine ag Gm [0,1,2,3,4,5,6,7] (H0.t) (AF 42 [(6,.ref 2 0),(7,.ref 3 0),(8,.ref 4 0),(9,.ref 5 0),(10,.ref 6 0),(11,.ref 7 0),(12,.ints AM.2)]) (zA4 most fuel AM) fun N=>?_
  revert r;apply gO
  exact bi 19 (fun p r h=>by
   cases h;refine gs (AX 5 Gm) [0,1,2,3,4,5,6] p (EU (OL Tryz.f26 15) 5 []) (AF 42 []) (zA3 most fuel) ?_;exact pX (o0:=_) (o1:=_) rfl) (gw 22 (jt (ja 25 8 2 (Gp (c:=BA) (L:=([(AM.1.1,AM.1.2)]:List (Int×Int))) (vals:=[.agg 2 (L1 [.i AM.1.1,.i AM.1.2])]) rfl ⟨⟨_,rfl,⟨Ay,Ay,trivial⟩⟩,trivial⟩) (jg (And.intro (And.intro (And.intro (Eq.refl 0) (Eq.refl 1)) (Qo BA ([(AM.1.1,AM.1.2)]:List (Int×Int)) (([(AM.1.1,AM.1.2)]:List (Int×Int)).length) 2 fun _=>⟨rfl,rfl⟩)) (And.intro (by decide:0<1) (by decide:1<=A3))) (jt (bi 29 (lF fun p=>rr Gm [0,1,2,3,4,5,6,9] rfl p) (ja 32 10 1 (Gp (c:=Ac) (L:=([AM.2]:List (List Int))) (vals:=[.ints AM.2]) rfl ⟨⟨_,rfl,⟨Ay,trivial⟩⟩,trivial⟩) (jg (And.intro (And.intro (And.intro (Eq.refl 0) (Eq.refl 1)) (Qo Ac ([AM.2]:List (List Int)) (([AM.2]:List (List Int)).length) 1 fun _=>⟨rfl,rfl⟩)) (And.intro (by decide:0<1) (by decide:1<=A3))) (jt (bi 37 (jg aG (jt (jt (jt (jg (Eq.refl (iN most fuel AM)) (lF fun p=>rr (tg:=[([(2,4)],(iN most fuel AM))]) Gm [0,1,2,3,4,5,6,11,9] rfl p)))))) (lF fun p=>rr Gm [0,1,2,3,4,5,6,11,9] rfl p)))))))))))
 | s1 Ed Ha Ct=>
  refine ag Gm [0,1,2,3,4,5,6,7,8] (H0.t) (AF 42 [(6,.ref 2 0),(7,.ref 3 0),(8,.ref 4 0),(9,.ref 5 0),(10,.ref 6 0),(11,.ref 8 0),(12,.ints AM.2)]) (zA2 most Ed Ha Ct AM) fun N=>?_
  revert r;apply gO
  exact bi 19 (fun p r h=>by
   cases h;refine gs (AX 5 Gm) [0,1,2,3,4,5,6,7] p (EU (OL Tryz.f26 15) 5 []) (AF 42 []) (zA1 most Ed Ha Ct) ?_;exact pX (o0:=_) (o1:=_) rfl) (gc (gw 22 (jt (ja 25 9 2 (Gp (c:=BA) (L:=([(AM.1.1,AM.1.2)]:List (Int×Int))) (vals:=[.agg 2 (L1 [.i AM.1.1,.i AM.1.2])]) rfl ⟨⟨_,rfl,⟨Ay,Ay,trivial⟩⟩,trivial⟩) (gc (gn fun fU=>gn fun fT=>jg (And.intro (And.intro (And.intro (Eq.refl 0) (Eq.refl 1)) (Qo BA ([(AM.1.1,AM.1.2)]:List (Int×Int)) (([(AM.1.1,AM.1.2)]:List (Int×Int)).length) 2 fun _=>⟨rfl,rfl⟩)) (And.intro (And.intro (Eq.refl 0) fU) fT)) (ja 26 10 2 (aS (enc:=(eZ BA)) (L:=Ct) (L':=([(AM.1.1,AM.1.2)]:List (Int×Int))) rfl rfl fun _ _ _ _=>Ay) (jt (bi 29 (lF fun p=>rr Gm [0,1,2,3,4,5,6,10] rfl p) (ja 32 11 1 (Gp (c:=Ac) (L:=([AM.2]:List (List Int))) (vals:=[.ints AM.2]) rfl ⟨⟨_,rfl,⟨Ay,trivial⟩⟩,trivial⟩) (jg (And.intro (And.intro (And.intro (Eq.refl 0) (Eq.refl 1)) (Qo Ac ([AM.2]:List (List Int)) (([AM.2]:List (List Int)).length) 1 fun _=>⟨rfl,rfl⟩)) (And.intro (by decide:0<1) (by decide:1<=A3))) (jt (bi 37 (jg aG (jt (jt (jt (jg (Eq.refl (iM most Ed AM Ct)) (lF fun p=>rr (tg:=[([(2,4)],(iM most Ed AM Ct))]) Gm [0,1,2,3,4,5,6,12,10] rfl p)))))) (lF fun p=>rr Gm [0,1,2,3,4,5,6,12,10] rfl p))))))))))))))
 | s2 Ec Gw HZ Gv Cs Cr=>
  refine ag Gm [0,1,2,3,4,5,6,7,8,9] (H0.t) (AF 42 [(6,.ref 2 0),(7,.ref 3 0),(8,.ref 4 0),(9,.ref 5 0),(10,.ref 6 0),(11,.ref 9 0),(12,.ints AM.2)]) (zA0 most Ec Gw HZ Gv Cs Cr AM) fun N=>?_
  revert r;apply gO
  exact bi 19 (fun p r h=>by
   cases h;refine gs (AX 5 Gm) [0,1,2,3,4,5,6,7,8] p (EU (OL Tryz.f26 15) 5 []) (AF 42 []) (zAz most Ec Gw HZ Gv Cs Cr) ?_;exact pX (o0:=_) (o1:=_) rfl) (gc (gw 22 (jt (ja 25 10 2 (Gp (c:=BA) (L:=([(AM.1.1,AM.1.2)]:List (Int×Int))) (vals:=[.agg 2 (L1 [.i AM.1.1,.i AM.1.2])]) rfl ⟨⟨_,rfl,⟨Ay,Ay,trivial⟩⟩,trivial⟩) (gc (gn fun fU=>gn fun fT=>jg (And.intro (And.intro (And.intro (Eq.refl 0) (Eq.refl 1)) (Qo BA ([(AM.1.1,AM.1.2)]:List (Int×Int)) (([(AM.1.1,AM.1.2)]:List (Int×Int)).length) 2 fun _=>⟨rfl,rfl⟩)) (And.intro (And.intro (Eq.refl 0) fU) fT)) (ja 26 11 2 (aS (enc:=(eZ BA)) (L:=Cr) (L':=([(AM.1.1,AM.1.2)]:List (Int×Int))) rfl rfl fun _ _ _ _=>Ay) (jt (bi 29 (lF fun p=>rr Gm [0,1,2,3,4,5,6,7,11] rfl p) (ja 32 12 1 (Gp (c:=Ac) (L:=([AM.2]:List (List Int))) (vals:=[.ints AM.2]) rfl ⟨⟨_,rfl,⟨Ay,trivial⟩⟩,trivial⟩) (gc (gn fun zEu=>gn fun zEt=>jg (And.intro (And.intro (And.intro (Eq.refl 0) (Eq.refl 1)) (Qo Ac ([AM.2]:List (List Int)) (([AM.2]:List (List Int)).length) 1 fun _=>⟨rfl,rfl⟩)) (And.intro (And.intro (Eq.refl 0) zEu) zEt)) (ja 33 13 1 (aS (enc:=(eZ Ac)) (L:=Cs) (L':=([AM.2]:List (List Int))) rfl rfl fun _ _ _ _=>Ay) (jt (bi 37 (jg aG (jt (jt (jt (jg (Eq.refl (iL most Ec Cs AM Cr)) (lF fun p=>rr (tg:=[([(2,4)],(iL most Ec Cs AM Cr))]) Gm [0,1,2,3,4,5,6,13,11] rfl p)))))) (lF fun p=>rr Gm [0,1,2,3,4,5,6,13,11] rfl p))))))))))))))))
end Go.Proofs.YtodinaconebmdaaGreatDoor
namespace Go.Proofs.YtodinaconebmdaaGreatDoor
open Go.RowKit
set_option maxRecDepth 100000
set_option maxHeartbeats 40000000
def Wp:Gn -> Option (List (List Int)×List (Int×Int)×Bool)
 | .s0=>some ([],[],false)
 | .s1 _ n t=>if n=t.length then some ([],t,false) else none
 | .s2 _ k n b l t=>if k=l.length/\ n=t.length then some (l,t,b) else none
def OI (r:Gn×Nat):Option (Option (List (List Int)×List (Int×Int)×Bool)):=if r.2=2 then some none else (Wp r.1).map fun x=>some (x.1,x.2.1,r.2==1&&x.2.2)
def J8 (n:Nat)(q:AA)(pos:List Int)(most fuel:Int):Option (Option (List (List Int)×List (Int×Int)×Bool)):=(LL n q pos).bind fun l=>(CN (IR n most fuel) l .s0).bind OI
def kJ (N:Nat -> Prop)(ρ:List AE)(w:World):Option (List (List Int)×List (Int×Int)×Bool) -> Ending -> World -> Prop
 | some r,e,w'=>∃ v,e= .returned v/\ B1 Tryz.prog GG N [] ρ w true (.tup 3 (L1 [.sl 1 r.1.length (AO Ac r.1),.sl 2 r.2.1.length (AO BA r.2.1),.bool r.2.2])) [] v w'
 | none,e,w'=>e= .panicked (pan GY)/\ Am w w'
theorem sq {N:Nat -> Prop}{h:DH}{ρ ρ':List AE}{w w':World}(h0:Ag Tryz.prog GG N [] ρ w)(st:Ap [] ρ w h ρ' w'):Am w w':=by
 have low: ∀ b,MO [] ρ b -> False:=fun b ⟨k,_,_,q,_⟩=>by simp at q
 have hu:AN (fun _=>False) w w':=st.upd.mono fun b _ hb=>low b hb
 exact hu.toExt fun _ _ h=>h
theorem XY {D:Nat}{w:World}(hD:w.heap[D]? =some (.deferred (some []))):EA D [{ target:=.collected D,args:=#[] }] w:=⟨D,rfl,zBl _,hD,fun _ h=>(by cases h),trivial⟩
theorem kM {most:Int}(f:Int)(b:Bool){N:Nat -> Prop}{ρs ρ0:List AE}{ws w0:World}{a0:Act}{D:Nat}(FO:Ag Tryz.prog GG N [] ρs ws)(Eo:Ap [] ρs ws [none,none,oC [.i most],oC [.i f],oC [.nils],oC [.nils],oC [.bool b]] ρ0 w0)(R0:AP Tryz.prog GG N ⟨AF 42 [(8,.ref 4 0),(9,.ref 5 0),(10,.ref 6 0)],[none,none,oC [.i most],oC [.i f],oC [.nils],oC [.nils],oC [.bool b]]⟩ ρ0 a0 w0)(hD:w0.heap[D]? =some (.deferred (some [])))(CR:GG.ng<=D)(Hz:ws.heap.size<=D):
 LeavesInM Fence.wide 0 Tryz.prog Tryz.f26 a0.tmps (fun e w'=>∃ v,e= .returned v/\ B1 Tryz.prog GG N [] ρs ws true (.tup 3 (L1 [.sl 1 (([]:List (List Int)).length) (AO Ac ([]:List (List Int))),.sl 2 (([]:List (Int×Int)).length) (AO BA ([]:List (Int×Int))),.bool b])) [] v w') [{ target:=.collected D,args:=#[] }] .returning w0:=by
 refine Xn (B:=D) _ _ (XY hD) fun W hs=>?_
 have R2:=R0.shut (Og (by kernel_rfl)) CR hs;obtain ⟨v,h1,h2⟩:=VL (fn:=Tryz.f26) R2 FO (Eo.shut (hs.mono fun _ _ h=>⟨zAa Hz h.1,h.2⟩)) [] H0 [.nils,.nils,.bool b] (AL.tupL (l:=[.nils,.nils,.bool b]) (l':=[.sl 1 (([]:List (List Int)).length) (AO Ac ([]:List (List Int))),.sl 2 (([]:List (Int×Int)).length) (AO BA ([]:List (Int×Int))),.bool b]) rfl ⟨(AL.sl_nil _ _),(AL.sl_nil _ _),Ay,trivial⟩) (by kernel_rfl) (by kernel_rfl);exact ⟨v,h1,v,rfl,h2⟩
theorem kL (t:List (Int×Int)){most:Int}(f:Int)(b:Bool){N:Nat -> Prop}{ρs ρ0:List AE}{ws w0:World}{a0:Act}{D:Nat}(FO:Ag Tryz.prog GG N [] ρs ws)(Eo:Ap [] ρs ws [none,none,oC [.i most],oC [.i f],oC [.nils],oC [.msl 7 2 0 t.length],oC [.bool b],some (.arr 2 t.length (AO BA t))] ρ0 w0)(R0:AP Tryz.prog GG N ⟨AF 42 [(8,.ref 4 0),(9,.ref 5 0),(10,.ref 6 0)],[none,none,oC [.i most],oC [.i f],oC [.nils],oC [.msl 7 2 0 t.length],oC [.bool b],some (.arr 2 t.length (AO BA t))]⟩ ρ0 a0 w0)(hD:w0.heap[D]? =some (.deferred (some [])))(CR:GG.ng<=D)(Hz:ws.heap.size<=D):
 LeavesInM Fence.wide 0 Tryz.prog Tryz.f26 a0.tmps (fun e w'=>∃ v,e= .returned v/\ B1 Tryz.prog GG N [] ρs ws true (.tup 3 (L1 [.sl 1 (([]:List (List Int)).length) (AO Ac ([]:List (List Int))),.sl 2 t.length (AO BA t),.bool b])) [] v w') [{ target:=.collected D,args:=#[] }] .returning w0:=by
 refine Xn (B:=D) _ _ (XY hD) fun W hs=>?_
 have R2:=R0.shut (Og (by kernel_rfl)) CR hs;obtain ⟨v,h1,h2⟩:=VL (fn:=Tryz.f26) R2 FO (Eo.shut (hs.mono fun _ _ h=>⟨zAa Hz h.1,h.2⟩)) [7] (H0.g (Eq.refl t.length)) [.nils,.sl 2 t.length (AO BA t),.bool b] (AL.tupL (l:=[.nils,.sl 2 t.length (AO BA t),.bool b]) (l':=[.sl 1 (([]:List (List Int)).length) (AO Ac ([]:List (List Int))),.sl 2 t.length (AO BA t),.bool b]) rfl ⟨(AL.sl_nil _ _),Ay,Ay,trivial⟩) (by kernel_rfl) (by kernel_rfl);exact ⟨v,h1,v,rfl,h2⟩
theorem kK (l:List (List Int))(t:List (Int×Int)){most:Int}(f:Int)(b:Bool){N:Nat -> Prop}{ρs ρ0:List AE}{ws w0:World}{a0:Act}{D:Nat}(FO:Ag Tryz.prog GG N [] ρs ws)(Eo:Ap [] ρs ws [none,none,oC [.i most],oC [.i f],oC [.msl 7 1 0 l.length],oC [.msl 8 2 0 t.length],oC [.bool b],some (.arr 1 l.length (AO Ac l)),some (.arr 2 t.length (AO BA t))] ρ0 w0)(R0:AP Tryz.prog GG N ⟨AF 42 [(8,.ref 4 0),(9,.ref 5 0),(10,.ref 6 0)],[none,none,oC [.i most],oC [.i f],oC [.msl 7 1 0 l.length],oC [.msl 8 2 0 t.length],oC [.bool b],some (.arr 1 l.length (AO Ac l)),some (.arr 2 t.length (AO BA t))]⟩ ρ0 a0 w0)(hD:w0.heap[D]? =some (.deferred (some [])))(CR:GG.ng<=D)(Hz:ws.heap.size<=D):
 LeavesInM Fence.wide 0 Tryz.prog Tryz.f26 a0.tmps (fun e w'=>∃ v,e= .returned v/\ B1 Tryz.prog GG N [] ρs ws true (.tup 3 (L1 [.sl 1 l.length (AO Ac l),.sl 2 t.length (AO BA t),.bool b])) [] v w') [{ target:=.collected D,args:=#[] }] .returning w0:=by
 refine Xn (B:=D) _ _ (XY hD) fun W hs=>?_
 have R2:=R0.shut (Og (by kernel_rfl)) CR hs;obtain ⟨v,h1,h2⟩:=VL (fn:=Tryz.f26) R2 FO (Eo.shut (hs.mono fun _ _ h=>⟨zAa Hz h.1,h.2⟩)) [7,8] (H0.g (Eq.refl l.length) |>.g (Eq.refl t.length)) [.sl 1 l.length (AO Ac l),.sl 2 t.length (AO BA t),.bool b] (AL.tupL (l:=[.sl 1 l.length (AO Ac l),.sl 2 t.length (AO BA t),.bool b]) (l':=[.sl 1 l.length (AO Ac l),.sl 2 t.length (AO BA t),.bool b]) rfl ⟨Ay,Ay,Ay,trivial⟩) (by kernel_rfl) (by kernel_rfl);exact ⟨v,h1,v,rfl,h2⟩
def il:ST:=.rd 0 (.rd 1 (.ef 2 (.ef 3 (.ef 4 (.fin [] [8,9,10]) (.no)) (.no)) (.no)))
theorem uJ:Bs (A4 Tryz.f26 12) [2] il:=by unfold Bs;kernel_rfl
def iK (most fuel:Int):St:=⟨(AF 42 [(8,.ref 4 0),(9,.ref 5 0),(10,.ref 6 0)]),([none,none,oC [.i most],oC [.i fuel],oC [.nils],oC [.nils],oC [.bool false]]:DH)⟩
def ik:ST:=.rd 0 (.rd 1 (.ef 2 (.ef 3 (.ef 4 (.fin [] [8,9,10]) (.no)) (.no)) (.no)))
theorem uI:Bs (A4 Tryz.f26 12) [2] ik:=by unfold Bs;kernel_rfl
def iJ (most f:Int)(t:List (Int×Int)):St:=⟨(AF 42 [(8,.ref 4 0),(9,.ref 5 0),(10,.ref 6 0)]),([none,none,oC [.i most],oC [.i f],oC [.nils],oC [.msl 7 2 0 t.length],oC [.bool false],some (.arr 2 t.length (AO BA t))]:DH)⟩
def ij:ST:=.rd 0 (.rd 1 (.ef 2 (.ef 3 (.ef 4 (.fin [] [8,9,10]) (.no)) (.no)) (.no)))
theorem uH:Bs (A4 Tryz.f26 12) [2] ij:=by unfold Bs;kernel_rfl
def iI (most f:Int)(l:List (List Int))(t:List (Int×Int)):St:=⟨(AF 42 [(8,.ref 4 0),(9,.ref 5 0),(10,.ref 6 0)]),([none,none,oC [.i most],oC [.i f],oC [.msl 7 1 0 l.length],oC [.msl 8 2 0 t.length],oC [.bool false],some (.arr 1 l.length (AO Ac l)),some (.arr 2 t.length (AO BA t))]:DH)⟩
def zAy (q:AA)(most fuel:Int):DH:=[oC (AG q),oC [.i most],oC [.i fuel],oC [.nils],oC [.nils],oC [.bool false]]
theorem vH {n:Nat}{q:AA}{pos:List Int}{most fuel:Int}{l:List Bc}{rE:Gn×Nat}{out:Option (List (List Int)×List (Int×Int)×Bool)}(hy:LL n q pos=some l)(hf:CN (IR n most fuel) l .s0=some rE)(ho:OI rE=some out) 
 {N:Nat -> Prop} {ρ0:List AE} {a0:Act} {w0:World} (R0:AP Tryz.prog GG N ⟨AF 42 [(0,.agg 5 (L1 (AG q))),(1,.ints pos),(2,.i most),(3,.i fuel)],[]⟩ ρ0 a0 w0) (EN:a0.defers= []):
 II Fence.wide 0 Tryz.prog 26 (AY Tryz.f26) (bodyPostM Fence.wide 0 Tryz.prog Tryz.f26 (kJ N ρ0 w0 out)) a0 w0:=by
 refine QF (MD ?_);refine wr (L:=0) HC.x [1,4,6,7,8,9,10] [0,1,2,3,4,5] [] H0 H0 (AF 42 [(1,.ints pos),(4,.ref 0 0),(6,.ref 1 0),(7,.ref 2 0),(8,.ref 3 0),(9,.ref 4 0),(10,.ref 5 0)]) ([oC (AG q),oC [.i most],oC [.i fuel],oC [.nils],oC [.nils],oC [.bool false]]:DH) R0 (by kernel_rfl) (by kernel_rfl) fun ρ1 a1 w1 R1 Br FL DK=>?_
 refine QF (QF (MD ?_));refine wr (L:=0) HC.x [6,7,8,9,10,15] [6,7,1,2,3,4,5] [] ((H0.c (em (xu q pos (rfl:mC n q pos=some ())) [] (zAy q most fuel)))) H0 (AF 42 [(6,.ref 2 0),(7,.ref 3 0),(8,.ref 4 0),(9,.ref 5 0),(10,.ref 6 0),(15,.fn 49 2 (L1 [.ref 0 0,.ref 1 0]))]) ([oC (AG q),oC [.ints pos],oC [.i most],oC [.i fuel],oC [.nils],oC [.nils],oC [.bool false]]:DH) R1 (by kernel_rfl) (by kernel_rfl) fun ρ2 a2 w2 R2 Ea Ir LR=>?_
 obtain ⟨ρ3,R3,En,Qz⟩:=At.ros (L:=0) (fr:=AF 42 [(6,.ref 2 0),(7,.ref 3 0),(8,.ref 4 0),(9,.ref 5 0),(10,.ref 6 0),(15,.fn 49 2 (L1 [.ref 0 0,.ref 1 0]))]) (h:=[oC (AG q),oC [.ints pos],oC [.i most],oC [.i fuel],oC [.nils],oC [.nils],oC [.bool false]]) (h':=Oe q pos 0++[oC [.i most],oC [.i fuel],oC [.nils],oC [.nils],oC [.bool false]]) [0,1] (by kernel_rfl) (by kernel_rfl) Tryz.prog GG N _ _ _ R2;refine rV ?_;have HY:YW Tryz.prog GG bO 49 (fun l=>.yl l::(List.range 2).map (L1 [.ref 0 0,.ref 1 0])) (fun _=>Oe q pos 0) (l.map Rp):=xl q pos l hy;refine wQ (KK:=7) (T:=[oC [.i most],oC [.i fuel],oC [.nils],oC [.nils],oC [.bool false]]) ⟨_,Tryz.func26⟩ R3 (by kernel_rfl) HY (by kernel_rfl) (by kernel_rfl) (fun x hx=>by obtain ⟨z,_,rfl⟩:=zDi.1 hx;rfl) (by kernel_rfl) ⟨.s0,by rw [zFt];exact hf,rfl⟩ (vg [.ret] rfl (pan GY) Rp l (IR n most fuel) (TX most fuel) (fun AM=>AF 42 [(6,.ref 2 0),(7,.ref 3 0),(8,.ref 4 0),(9,.ref 5 0),(10,.ref 6 0),(15,.fn 49 2 (L1 [.ref 0 0,.ref 1 0])),(16,.agg 2 (L1 [.i AM.1.1,.i AM.1.2])),(17,.ints AM.2)]) (fun l B N x s r h=>vR n most fuel l B N x s r h) (fun s=>by cases s <;> kernel_rfl) (by kernel_rfl)) fun D e h8 ρ8 w8 hl R8 MK Xq hD GR=>?_
 have Ny:=((Br.trans Ea).trans En).trans MK;have CR:GG.ng<=D:=zAa (GG.lo _ R3.hr.gi) GR;have Hz:w0.heap.size<=D:=zAa (((Br.trans Ea).trans En).upd.size) GR;have di:a2.defers= []:=by rw [Ir,FL,EN]
 have df: ∀ {a:Act},a.defers= { target:=.collected D,args:=#[] }::a2.defers -> a.defers= [{ target:=.collected D,args:=#[] }]:=fun h=>by rw [h,di]
 rcases hl with ⟨rfl,s,hs,rfl⟩ | ⟨hx,he,rfl⟩ | ⟨c,rfl,rfl,h2,rfl⟩
 ·rw [zCM,zGp] at hs;have e:(s,0)=rE:=zAV hs;subst e;have R9:AP Tryz.prog GG N ⟨AF 42 [(6,.ref 2 0),(7,.ref 3 0),(8,.ref 4 0),(9,.ref 5 0),(10,.ref 6 0),(15,.fn 49 2 (L1 [.ref 0 0,.ref 1 0]))],TX most fuel s⟩ ρ8 { a2 with defers:={ target:=.collected D,args:=#[] }::a2.defers } w8:=⟨R8.hr,R8.fr⟩;cases s with
  | s0=>
   cases ho;refine QF (MD ?_);refine Zf (L:=0) HC.x [2] il uJ [([(2,4)],(iK most fuel))] [8,9,10] [0,1,2,3,4,5,6] [] ((H0.t |>.t |>.t |>.g (Eq.refl (iK most fuel)))) H0 (AF 42 [(8,.ref 4 0),(9,.ref 5 0),(10,.ref 6 0)]) ([none,none,oC [.i most],oC [.i fuel],oC [.nils],oC [.nils],oC [.bool false]]:DH) R9 (by kernel_rfl) fun ρ10 V4 Se V6 ML U1 me=>?_
   refine MD (zHA ?_)
   show LeavesInM _ _ _ _ _ _ V4.defers .returning Se
   rw [df U1];exact kM fuel false R0.hr (Ny.trans ML) V6 (fA R9.hr ML hD) CR Hz
  | s1 f n1 t=>
   have ho:(if n1=t.length then some ([],t,false) else none:Option (List (List Int)×List (Int×Int)×Bool)).map (fun x=>some (x.1,x.2.1,false))=some out:=ho;obtain ⟨x,hx,rfl⟩:=zFc.1 ho;obtain ⟨rfl,Ii⟩:=C1 hx;cases Ii;refine QF (MD ?_);refine Zf (L:=0) HC.x [2] ik uI [([(2,4)],(iJ most f t))] [8,9,10] [0,1,2,3,4,5,6,7] [] ((H0.t |>.t |>.t |>.g (Eq.refl (iJ most f t)))) H0 (AF 42 [(8,.ref 4 0),(9,.ref 5 0),(10,.ref 6 0)]) ([none,none,oC [.i most],oC [.i f],oC [.nils],oC [.msl 7 2 0 t.length],oC [.bool false],some (.arr 2 t.length (AO BA t))]:DH) R9 (by kernel_rfl) fun ρ10 V4 Se V6 ML U1 me=>?_
   refine MD (zHA ?_)
   show LeavesInM _ _ _ _ _ _ V4.defers .returning Se
   rw [df U1];exact kL t f false R0.hr (Ny.trans ML) V6 (fA R9.hr ML hD) CR Hz
  | s2 f n2 n1 b l t=>
   have ho:(if n2=l.length/\ n1=t.length then some (l,t,b) else none:Option (List (List Int)×List (Int×Int)×Bool)).map (fun x=>some (x.1,x.2.1,false))=some out:=ho;obtain ⟨x,hx,rfl⟩:=zFc.1 ho;obtain ⟨⟨rfl,rfl⟩,Ii⟩:=C1 hx;cases Ii;refine QF (MD ?_);refine Zf (L:=0) HC.x [2] ij uH [([(2,4)],(iI most f l t))] [8,9,10] [0,1,2,3,4,5,6,7,8] [] ((H0.t |>.t |>.t |>.g (Eq.refl (iI most f l t)))) H0 (AF 42 [(8,.ref 4 0),(9,.ref 5 0),(10,.ref 6 0)]) ([none,none,oC [.i most],oC [.i f],oC [.msl 7 1 0 l.length],oC [.msl 8 2 0 t.length],oC [.bool false],some (.arr 1 l.length (AO Ac l)),some (.arr 2 t.length (AO BA t))]:DH) R9 (by kernel_rfl) fun ρ10 V4 Se V6 ML U1 me=>?_
   refine MD (zHA ?_)
   show LeavesInM _ _ _ _ _ _ V4.defers .returning Se
   rw [df U1];exact kK l t f false R0.hr (Ny.trans ML) V6 (fA R9.hr ML hD) CR Hz
 ·obtain ⟨s,c⟩:=rE
  have hc:c=1/\ e= .ret:=by
   rcases c with _ | _ | c
   ·cases he;cases hx
   ·cases he;exact ⟨rfl,rfl⟩
   ·exact absurd he (by simp)
  obtain ⟨rfl,rfl⟩:=hc;have R9:AP Tryz.prog GG N ⟨AF 42 [(8,.ref 4 0),(9,.ref 5 0),(10,.ref 6 0)],TX most fuel s⟩ ρ8 a2 w8:=R8.forg [8,9,10] rfl (by kernel_rfl)
  show LeavesInM _ _ _ _ _ _ ({ target:=.collected D,args:=#[] }::a2.defers) .returning w8
  rw [di];cases s with
  | s0=>
   cases ho;exact kM (a0:=a2) fuel false R0.hr Ny R9 hD CR Hz
  | s1 f n1 t=>
   have ho:(if n1=t.length then some ([],t,false) else none:Option (List (List Int)×List (Int×Int)×Bool)).map (fun x=>some (x.1,x.2.1,x.2.2))=some out:=ho;obtain ⟨x,hx,rfl⟩:=zFc.1 ho;obtain ⟨rfl,Ii⟩:=C1 hx;cases Ii;exact kL (a0:=a2) t f false R0.hr Ny R9 hD CR Hz
  | s2 f n2 n1 b l t=>
   have ho:(if n2=l.length/\ n1=t.length then some (l,t,b) else none:Option (List (List Int)×List (Int×Int)×Bool)).map (fun x=>some (x.1,x.2.1,x.2.2))=some out:=ho;obtain ⟨x,hx,rfl⟩:=zFc.1 ho;obtain ⟨⟨rfl,rfl⟩,Ii⟩:=C1 hx;cases Ii;exact kK (a0:=a2) l t f b R0.hr Ny R9 hD CR Hz
 ·have ho:(some none:Option (Option (List (List Int)×List (Int×Int)×Bool)))=some out:=by
   rw [←ho];unfold OI;exact (zAA (show rE.2=2 from h2)).symm
  cases ho
  show LeavesInM _ _ _ _ _ _ ({ target:=.collected D,args:=#[] }::a2.defers) (.panicking (pan GY)) w8
  rw [di];exact Xo (B:=D) (by simp) _ _ (XY hD) fun W hs=>⟨rfl,sq R0.hr (Ny.shut (hs.mono fun _ _ h=>⟨zAa Hz h.1,h.2⟩))⟩
theorem kD {n:Nat}{q:AA}{pos:List Int}{most fuel:Int}{out:Option (List (List Int)×List (Int×Int)×Bool)}(h:J8 n q pos most fuel=some out){N:Nat -> Prop}{ρ:List AE}{w:World}{args:Array Value}(HR:Ag Tryz.prog GG N [] ρ w)(fa:A0 (MS N [] ρ) w ρ [.agg 5 (L1 (AG q)),.ints pos,.i most,.i fuel] args):CallsIn Fence.wide 0 Tryz.prog 26 args w (kJ N ρ w out):=by
 obtain ⟨l,hy,h⟩:=GA h;obtain ⟨rE,hf,ho⟩:=GA h;refine zEW (c:=AY Tryz.f26) Tryz.func26 (by kernel_rfl) trivial ?_;refine vH hy hf ho (N:=N) (ρ0:=ρ) ⟨HR,?_⟩ rfl;have Af:([.agg 5 (L1 (AG q)),.ints pos,.i most,.i fuel]:List DV).length=args.size:=fa.1;have e:([.agg 5 (L1 (AG q)),.ints pos,.i most,.i fuel]:List DV)++List.replicate (Tryz.f26.ntmps-([.agg 5 (L1 (AG q)),.ints pos,.i most,.i fuel]:List DV).length) .any=AF 42 [(0,.agg 5 (L1 (AG q))),(1,.ints pos),(2,.i most),(3,.i fuel)]:=by kernel_rfl
 rw [←e,Af];exact A0.append fa (A0.anys _ _ _ _)
theorem kC {n:Nat}{q:AA}{pos:List Int}{most fuel:Int}{r:List (List Int)×List (Int×Int)×Bool}(h:J8 n q pos most fuel=some (some r)):EQ 26 [.agg 5 (L1 (AG q)),.ints pos,.i most,.i fuel] [] (.tup 3 (L1 [.sl 1 r.1.length (AO Ac r.1),.sl 2 r.2.1.length (AO BA r.2.1),.bool r.2.2])) [] true:=by
 have PM:(Tryz.f26.name== "runtime.NumGoroutine")=false:=by kernel_rfl
 exact ⟨⟨Tryz.f26,Tryz.func26,by simpa using PM,by kernel_rfl⟩,fun N ρ w args HR CD=>(zGj (n:=0)).1 (kD h HR CD)⟩
theorem kB {n:Nat}{q:AA}{pos:List Int}{most fuel:Int}(h:J8 n q pos most fuel=some none):rC 26 [.agg 5 (L1 (AG q)),.ints pos,.i most,.i fuel] GY:=
 ⟨fun args W=>I0 Tryz.func26 (by kernel_rfl) (by kernel_rfl) args W,fun _ _ _ _ HR fa=>kD h HR fa⟩
end Go.Proofs.YtodinaconebmdaaGreatDoor
