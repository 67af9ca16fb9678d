/- Part 7 of 7 of what the proofs of these laws stand on. -/
import Derived.Test.YtekkngkphejfcaaGreatDoorPsF
import Derived.Test.YtekkngkphejfcaaGreatDoorRows
import Derived.ProofKit
import Derived.OpenShut
import Derived.Deep.DeepHandedRow
import Derived.Lib.LaidTab
import Derived.Deep.Slices
import Derived.Stop.LaidErr
import Derived.Test.YtekkngkphejfcaaGreatDoorCards
import Derived.Test.YtekkngkphejfcaaGreatDoorTie
set_option linter.all false
namespace Go.Proofs.YtekkngkphejfcaaGreatDoor
open Go.RowKit
theorem zbj {a b:List Int} {n:Nat} (hl:a.length≤LB) (hn:a.length<n):same n a b=some (decide (a=b)):=by
 have hb:LB≤9223372036854775806:=by decide
 unfold same zV9
 by_cases hlen:a.length=b.length
 ·have e:((a.length:Int) != (b.length:Int))=false:=by rw [hlen];simp
  rw [e,cond_false]
  have key: ∀ (k i n:Nat),i+k=a.length→k+1≤n→zMX a b n (.l1 (i:Int))=some (decide (a.drop i=b.drop i)):=by
   intro k
   induction k with
   | zero=>
    intro i n e hn
    obtain ⟨n,rfl⟩: ∃ k,n=k+1:=⟨n-1,by omega⟩
    show zKe n (zMX a b n) a b (i:Int)=_
    unfold zKe
    rw [decide_eq_false (by omega),cond_false,List.drop_eq_nil_of_le (by omega),List.drop_eq_nil_of_le (by omega)];rfl
   | succ k ih=>
    intro i n e hn
    obtain ⟨n,rfl⟩: ∃ k,n=k+1:=⟨n-1,by omega⟩
    have hi:i<a.length:=by omega
    have hi':i<b.length:=by omega
    have d: ∀ {l:List Int},i<l.length→l.drop i=l.getD i 0::l.drop (i+1):=fun {l} h=>by
     rw [List.drop_eq_getElem_cons h,List.getD_eq_getElem?_getD,List.getElem?_eq_getElem h];rfl
    have:=ih (i+1) n (by omega) (by omega)
    show zKe n (zMX a b n) a b (i:Int)=_
    unfold zKe
    rw [decide_eq_true (by omega),cond_true,if_pos ⟨⟨by omega,by omega⟩,by omega,by omega⟩,Int.toNat_natCast,if_pos (zAG.2 ⟨by omega,by omega⟩),d hi,d hi']
    by_cases h:a.getD i 0=b.getD i 0
    ·have:(a.getD i 0 != b.getD i 0)=false:=by rw [h];simp
     rw [this,cond_false]
     refine Eq.trans (by assumption) ?_
     rw [h];simp
    ·have:(a.getD i 0 != b.getD i 0)=true:=by simpa using h
     rw [this,cond_true,decide_eq_false fun e=>h (List.cons.inj e).1]
  exact key a.length 0 n (by omega) (by omega)
 ·have e:((a.length:Int) != (b.length:Int))=true:=by simp;omega
  rw [e,cond_true,decide_eq_false fun h=>hlen (by rw [h])]
theorem zOn (x:Int):(zAj x).Pairwise (· < ·):=by
 unfold zAj zBt
 rw [List.pairwise_map]
 exact (List.pairwise_lt_range.filter _).imp fun h=>by omega
theorem zOo (x:Int):(zAj x).length≤64:=by
 unfold zAj zBt
 rw [List.length_map]
 exact Nat.le_trans (List.length_filter_le _ _) (by rw [List.length_range];exact Nat.le_refl _)
def zFC (pos x:List Int) (c:Nat):List (Int×Int):=(zAj (bits .andNot .i64 (pos.getD c 0) (x.getD c 0))).map fun s=>((c:Int),s)
def zHE (pos x:List Int) (m:Nat):List (Int×Int):=(List.range m).flatMap (zFC pos x)
theorem zMv {pos x:List Int} {m:Nat}:zHE pos x (m+1)=zHE pos x m++zFC pos x m:=by
 unfold zHE
 rw [List.range_succ,List.flatMap_append,List.flatMap_singleton]
theorem zLP {pos x:List Int}: ∀ m:Nat,(zHE pos x m).length≤64*m
 | 0=>Nat.le_refl _
 | m+1=>by
  have h1:=zLP (pos:=pos) (x:=x) m
  have h2:=zOo (bits .andNot .i64 (pos.getD m 0) (x.getD m 0))
  rw [zMv,List.length_append,zFC,List.length_map]
  omega
def zaZ (a b:Int×Int):Prop:=a.1<b.1∨(a.1=b.1∧a.2<b.2)
theorem zP2 {pos x:List Int} {m:Nat}:(zHE pos x m).Pairwise zaZ:=by
 unfold zHE
 rw [List.pairwise_flatMap]
 refine ⟨fun c _=>?_,?_⟩
 ·unfold zFC
  rw [List.pairwise_map]
  exact (zOn _).imp fun h=>.inr ⟨rfl,h⟩
 ·refine List.pairwise_lt_range.imp fun {a b} h u hu v hv=>?_
  unfold zFC at hu hv
  obtain ⟨s,_,rfl⟩:=List.mem_map.1 hu
  obtain ⟨t,_,rfl⟩:=List.mem_map.1 hv
  exact .inl (by show (a:Int)<(b:Int);omega)
section
variable {q:zAB} {i:Int} {pos x:List Int}
theorem zMu {n:Nat} {x25:Int}: ∀ (l:List Int) (o:List (Int×Int)),o.length+l.length≤LIM→zBA (zB8 n pos x x25) l (.s0 o.length o)=some (.s0 (o++l.map fun s=>(x25,s)).length (o++l.map fun s=>(x25,s)))
 | [],o,_=>by rw [List.map_nil,List.append_nil];rfl
 | a::l,o,h=>by
  rw [List.length_cons] at h
  have e1:zB8 n pos x x25 a (.s0 o.length o)=some (.s0 (o++[(x25,a)]).length (o++[(x25,a)])):=by
   unfold zB8 zGq zGr
   dsimp only
   rw [if_pos ⟨rfl,by rw [List.length_singleton];omega⟩,List.length_append]
  have:=zMu (n:=n) (x25:=x25) l (o++[(x25,a)]) (by rw [List.length_append,List.length_singleton];omega)
  show (zB8 n pos x x25 a (.s0 o.length o)).bind (zBA (zB8 n pos x x25) l)=_
  rw [e1,Option.bind_some,this,List.map_cons,List.append_assoc];rfl
theorem zMt {n:Nat} {x25 y:Int}: ∀ (l:List Int) (o:List (Int×Int)),o.length+l.length≤LIM→zBA (zBy n pos x y) l (.s1 o.length x25 o)=some (.s1 (o++l.map fun s=>(x25,s)).length x25 (o++l.map fun s=>(x25,s)))
 | [],o,_=>by rw [List.map_nil,List.append_nil];rfl
 | a::l,o,h=>by
  rw [List.length_cons] at h
  have e1:zBy n pos x y a (.s1 o.length x25 o)=some (.s1 (o++[(x25,a)]).length x25 (o++[(x25,a)])):=by
   unfold zBy zJb zJc
   dsimp only
   rw [if_pos ⟨rfl,by rw [List.length_singleton];omega⟩,List.length_append]
  have:=zMt (n:=n) (x25:=x25) (y:=y) l (o++[(x25,a)]) (by rw [List.length_append,List.length_singleton];omega)
  show (zBy n pos x y a (.s1 o.length x25 o)).bind (zBA (zBy n pos x y) l)=_
  rw [e1,Option.bind_some,this,List.map_cons,List.append_assoc];rfl
def stL (x:List Int) (o:List (Int×Int)) (k:Int):zIs:=match o with
 | []=>.l1 x k
 | a::l=>.l2 x k (a::l).length (a::l)
theorem zcd {o:List (Int×Int)} {k:Int} (h:o≠[]):stL x o k= .l2 x k o.length o:=by
 cases o with
 | nil=>exact absurd rfl h
 | cons a l=>rfl
theorem zXi {n k:Nat} {o:List (Int×Int)} (hx:x.length=pos.length) (h256:pos.length≤256) (hk:k<pos.length) (ho:o.length≤64*k) (hb:0≤bits .andNot .i64 (pos.getD k 0) (x.getD k 0)):
 zCW q i pos (n+1) (stL x o k)=zCW q i pos n (stL x (o++zFC pos x k) ((k:Int)+1)):=by
 have L:(1000000000000:Nat)=LIM:=rfl
 have hin:=zAl .andNot (pos.getD k 0) (x.getD k 0)
 have hs:=zOo (bits .andNot .i64 (pos.getD k 0) (x.getD k 0))
 have r1:R64 ((k:Int)+1):=zAG.2 ⟨by omega,by omega⟩
 have hb2:bits .andNot .i64 (pos.getD k 0) (x.getD k 0)<9223372036854775808:=by have:=hin.2;omega
 cases o with
 | nil=>
  show zH4 n (zCW q i pos n) q i pos x (k:Int)=_
  unfold zH4
  simp only [Int.toNat_natCast]
  rw [decide_eq_true (by omega),cond_true,if_pos ⟨⟨by omega,by omega⟩,⟨by omega,by omega⟩,hb,hb2⟩]
  unfold zFC
  cases hl:zAj (bits .andNot .i64 (pos.getD k 0) (x.getD k 0)) with
  | nil=>
   show (if R64 ((k:Int)+1) then _ else none)=_
   rw [if_pos r1];rfl
  | cons a l=>
   rw [hl,List.length_cons] at hs
   have e1:zBy n pos x k a .s0=some (.s1 [((k:Int),a)].length k [((k:Int),a)]):=rfl
   have e2:=zMt (n:=n) (pos:=pos) (x:=x) (x25:=(k:Int)) (y:=(k:Int)) l [((k:Int),a)] (by rw [List.length_singleton,←L];omega)
   show ((zBy n pos x k a .s0).bind (zBA (zBy n pos x k) l)).bind _=_
   rw [e1,Option.bind_some,e2,Option.bind_some]
   dsimp only
   rw [if_pos r1];rfl
 | cons a l=>
  rw [zcd (by simp:(a::l)++zFC pos x k≠[])]
  have e2:=zMu (n:=n) (pos:=pos) (x:=x) (x25:=(k:Int)) (zAj (bits .andNot .i64 (pos.getD k 0) (x.getD k 0))) (a::l) (by rw [←L];omega)
  show zH3 n (zCW q i pos n) q i pos x (k:Int) (a::l).length (a::l)=_
  unfold zH3
  simp only [Int.toNat_natCast]
  rw [decide_eq_true (by omega),cond_true,if_pos ⟨⟨by omega,by omega⟩,⟨by omega,by omega⟩,hb,hb2⟩,e2,Option.bind_some]
  dsimp only
  rw [if_pos r1];rfl
theorem zTC (hx:x.length=pos.length) (h256:pos.length≤256) (hb: ∀ k,k<pos.length→0≤bits .andNot .i64 (pos.getD k 0) (x.getD k 0)): ∀ (m k n:Nat),k+m=pos.length→m+1≤n→zCW q i pos n (stL x (zHE pos x k) k)=some (zHE pos x pos.length,0)
 | 0,k,n,e,hn=>by
  have e:k=pos.length:=by omega
  subst e
  obtain ⟨n,rfl⟩: ∃ j,n=j+1:=⟨n-1,by omega⟩
  cases h:zHE pos x pos.length with
  | nil=>
   show zH4 n (zCW q i pos n) q i pos x (pos.length:Int)=_
   unfold zH4
   rw [decide_eq_false (by omega),cond_false]
  | cons a l=>
   show zH3 n (zCW q i pos n) q i pos x (pos.length:Int) (a::l).length (a::l)=_
   unfold zH3
   rw [decide_eq_false (by omega),cond_false,if_pos rfl]
 | m+1,k,n,e,hn=>by
  obtain ⟨n,rfl⟩: ∃ j,n=j+1:=⟨n-1,by omega⟩
  rw [zXi hx h256 (by omega) (zLP k) (hb k (by omega)),←zMv]
  exact zTC hx h256 hb m (k+1) n (by omega) (by omega)
theorem PR.sub {c:zAC} (h:PR q c pos x) {j s:Nat} (hs:tb (x.getD j 0) s=true):j<pos.length∧tb (pos.getD j 0) s=true:=by
 have hj:j<pos.length:=by
  refine Nat.lt_of_not_le fun hle=>?_
  rw [List.getD_eq_getElem?_getD,List.getElem?_eq_none (by have:=h.len;omega)] at hs
  exact tb0 hs
 refine ⟨hj,?_⟩
 by_cases hA:zVi q c pos
 ·exact (((h.live hA j hj).2 s).1 hs).1
 ·rw [h.dead hA,zat] at hs;exact absurd hs tb0
theorem PR.in64 {c:zAC} (h:PR q c pos x) (j:Nat):zEg (x.getD j 0):=by
 by_cases hA:zVi q c pos
 ·by_cases hj:j<pos.length
  ·exact (h.live hA j hj).1
  ·rw [List.getD_eq_getElem?_getD,List.getElem?_eq_none (by have:=h.len;omega)];exact ⟨by decide,by decide⟩
 ·rw [h.dead hA];exact zin j
theorem zb7 (C:Ctx q i pos) (hx:Ev (fun n=>zCV n q i pos) x) (hP:PR q (con q i) pos x):Ev (fun n=>zRd n q i pos) (zHE pos x pos.length,0):=by
 have h256:=C.len256
 have hE:Ev (fun n=>zIO n q i pos) 0:=⟨szP q+pos.length+1,fun n hn=>by show zIO n q i pos=some 0;rw [zQm C.fit (by omega) (Nat.le_trans h256.2 (by decide)) (by omega),C.check]⟩
 refine Ev.eq (Ev.bind hE (b:=fun n y1=>bif (y1 != 0) then some (([]:List (Int×Int)),y1) else (zCV n q i pos).bind fun y2=>zCW q i pos n (.l1 y2 0)) ?_) fun n=>rfl
 refine Ev.bind hx (b:=fun n y2=>zCW q i pos n (.l1 y2 0)) ⟨pos.length+1,fun n hn=>?_⟩
 refine zTC hP.len h256.2 (fun k hk=>?_) pos.length 0 n (by omega) (by omega)
 refine (zV0 (k:=16) (by decide) (zAl _ _ _) fun s h1 h2=>?_).1
 rw [zAp,(C.sm k hk).hi (by have:=C.work.k;omega)];rfl
theorem zXf (C:Ctx q i pos) {c:zAC} (hP:PR q c pos x) {p:Int×Int}:p∈zHE pos x pos.length↔∃ j s:Nat,p=((j:Int),(s:Int))∧j<pos.length∧s<q.symbols.toNat∧tb (pos.getD j 0) s=true∧tb (x.getD j 0) s=false:=by
 have k16:=C.work.k
 unfold zHE zFC
 simp only [List.mem_flatMap,List.mem_range,List.mem_map]
 have sm: ∀ j,j<pos.length→Sm q.symbols.toNat (bits .andNot .i64 (pos.getD j 0) (x.getD j 0)):=fun j hj=>by
  refine zV0 (Nat.le_trans k16 (by decide)) (zAl _ _ _) fun s h1 h2=>?_
  rw [zAp,(C.sm j hj).hi h1];rfl
 constructor
 ·rintro ⟨j,hj,e,he,rfl⟩
  obtain ⟨s,rfl,h1,h2⟩:=(zAd (sm j hj) (Nat.le_trans k16 (by decide))).1 he
  rw [zAp,Bool.and_eq_true,Bool.not_eq_true'] at h2
  exact ⟨j,s,rfl,hj,h1,h2.1,h2.2⟩
 ·rintro ⟨j,s,rfl,hj,h1,h2,h3⟩
  exact ⟨j,hj,(s:Int),(zAd (sm j hj) (Nat.le_trans k16 (by decide))).2 ⟨s,rfl,h1,by rw [zAp,h2,h3];rfl⟩,rfl⟩
theorem zbh:Ev zcf true:=⟨200,fun n hn=>by
 obtain ⟨k,rfl⟩: ∃ k,n=k+200:=⟨n-200,by omega⟩
 exact (show ∀ k,zcf (k+200)=some true from fun k=>by kernel_rfl) k⟩
theorem zXq {n:Nat→Option Bool} {f:Nat→Option Bool} (h: ∀ m,n m=(zcf m).bind fun y1=>bif (!y1) then some false else (few m q pos).bind fun y2=>bif (!y2) then some true else f m) (hf:Ev f true):Ev n true:=by
 obtain ⟨N,hs⟩:=zbh
 obtain ⟨M,hf⟩:=hf
 refine ⟨N+M+q.cons.length+1,fun m hm=>?_⟩
 obtain ⟨b,hb⟩:=zap (q:=q) (pos:=pos) (n:=m) (by omega)
 rw [h,hs m (by omega),Option.bind_some,hb,Option.bind_some,hf m (by omega)]
 cases b <;> rfl
end
end Go.Proofs.YtekkngkphejfcaaGreatDoor
namespace Go.Proofs.YtekkngkphejfcaaGreatDoor
open Go.RowKit
open Classical
section
variable {q:zAB} {c:zAC} {i:Int} {pos x:List Int}
theorem zSu {n:Nat} (hl:pos.length≤256): ∀ (k j n:Nat),j+k=pos.length→k<n→zG6 pos n (.l1 (j:Int))=some ((pos.drop j).any (· ==0))
 | 0,j,n+1,e,_=>by
  show zHs n (zG6 pos n) pos (j:Int)=_
  unfold zHs
  rw [decide_eq_false (by omega),cond_false,List.drop_eq_nil_of_le (by omega)];rfl
 | k+1,j,n+1,e,hn=>by
  have hj:j<pos.length:=by omega
  have e2:pos.drop j=pos.getD j 0::pos.drop (j+1):=by
   rw [List.drop_eq_getElem_cons hj,List.getD_eq_getElem?_getD,List.getElem?_eq_getElem hj];rfl
  have ih:=zSu (n:=n) hl k (j+1) n (by omega) (by omega)
  have ih:zG6 pos n (.l1 ((j:Int)+1))=_:=ih
  show zHs n (zG6 pos n) pos (j:Int)=_
  unfold zHs
  rw [decide_eq_true (by omega),cond_true,if_pos ⟨by omega,by omega⟩,if_pos (zAG.2 ⟨by omega,by omega⟩),Int.toNat_natCast,ih,e2,List.any_cons]
  cases (pos.getD j 0==0) <;> rfl
theorem zNt {n:Nat} (hl:pos.length≤256) (hn:pos.length<n):zZ7 n pos=some (zFR pos):=zSu (n:=n) hl pos.length 0 n (by omega) hn
theorem zPD {n:Nat} (hF:Fit q) (hn:szP q≤n) (hl:pos.length≤LB) (hn2:pos.length<n):zHc n q pos=some (zHB q pos):=by
 have hb:LB≤9223372036854775806:=by decide
 unfold zHc zJR zHB
 rw [zO7 hF hn,Option.bind_some]
 cases hv:zDH q with
 | false=>rfl
 | true=>
  obtain ⟨_,hs,_⟩:=zAo hv
  obtain ⟨p1,p2,p3⟩:=zHx hs.1 hs.2
  have wu:IntKind.u64.wrap q.symbols=q.symbols:=by
   show q.symbols % 18446744073709551616=q.symbols
   omega
  show (bif ((pos.length:Int) != q.cells) then some 250 else zB4 q pos n (.l1 0))=some (if zN2 q pos=true then 0 else 250)
  unfold zN2
  by_cases hlen:(pos.length:Int)=q.cells
  ·have h1:((pos.length:Int) != q.cells)=false:=by simpa using hlen
   have h2:((pos.length:Int)==q.cells)=true:=by simpa using hlen
   rw [h1,cond_false,h2,Bool.true_and]
   have key: ∀ (k i n:Nat),i+k=pos.length→k+1≤n→zB4 q pos n (.l1 (i:Int))=some (if ((pos.drop i).all fun x=>decide (0≤x)&&decide (x<2 ^ q.symbols.toNat))=true then 0 else 250):=by
    intro k
    induction k with
    | zero=>
     intro i n e hn
     obtain ⟨n,rfl⟩: ∃ k,n=k+1:=⟨n-1,by omega⟩
     show zC4 n (zB4 q pos n) q pos (i:Int)=_
     unfold zC4
     rw [decide_eq_false (by omega),cond_false,List.drop_eq_nil_of_le (by omega)];rfl
    | succ k ih=>
     intro i n e hn
     obtain ⟨n,rfl⟩: ∃ k,n=k+1:=⟨n-1,by omega⟩
     have hi:i<pos.length:=by omega
     have e2:pos.drop i=pos.getD i 0::pos.drop (i+1):=by
      rw [List.drop_eq_getElem_cons hi,List.getD_eq_getElem?_getD,List.getElem?_eq_getElem hi];rfl
     have:=ih (i+1) n (by omega) (by omega)
     show zC4 n (zB4 q pos n) q pos (i:Int)=_
     unfold zC4
     rw [decide_eq_true (by omega),cond_true,if_pos ⟨by omega,by omega⟩,wu,if_pos p3,if_pos (zAG.2 ⟨by omega,by omega⟩),Int.toNat_natCast,e2,List.all_cons,p1]
     by_cases c1:pos.getD i 0<0
     ·rw [decide_eq_true c1,cond_true,decide_eq_false (p:=0≤pos.getD i 0) (by omega)];rfl
     ·rw [decide_eq_false c1,cond_false,decide_eq_true (p:=0≤pos.getD i 0) (by omega),Bool.true_and]
      by_cases c2:pos.getD i 0≥2 ^ q.symbols.toNat
      ·rw [decide_eq_true c2,cond_true,decide_eq_false (p:=pos.getD i 0<2 ^ q.symbols.toNat) (by omega)];rfl
      ·rw [decide_eq_false c2,cond_false,decide_eq_true (p:=pos.getD i 0<2 ^ q.symbols.toNat) (by omega),Bool.true_and]
       exact this
   exact key pos.length 0 n (by omega) (by omega)
  ·have h1:((pos.length:Int) != q.cells)=true:=by simpa using hlen
   have h2:((pos.length:Int)==q.cells)=false:=by simpa using hlen
   rw [h1,cond_true,h2,Bool.false_and];rfl
theorem zUM {n:Nat} (hF:Fit q) (hn:szP q≤n) (hl:pos.length≤LB) (hn2:pos.length<n):zG4 n q i pos=some (zEZ q i pos):=by
 unfold zG4 zIg zEZ
 rw [zWe hF hn,Option.bind_some,zPD hF hn hl hn2,Option.bind_some]
 by_cases h:(zDe q i).2=0
 ·have:((zDe q i).2 != 0)=false:=by simpa using h
  rw [this,if_pos h];rfl
 ·have:((zDe q i).2 != 0)=true:=by simpa using h
  rw [this,if_neg h];rfl
theorem Ctx.rw (C:Ctx q i pos) (hd:zFR pos=false):RW q (con q i) pos:=by
 obtain ⟨_,h2,h3,_⟩:=zAo C.valid
 have h256:=C.len256
 exact ⟨C.work,C.vals,h2,h3.1,h256.1,h256.2,zBQ.1 hd⟩
theorem Ctx.runs1 (C:Ctx q i pos):zYz (con q i):=by
 have h:=C.fine
 unfold zC9 at h
 simp only [Bool.and_eq_true,decide_eq_true_iff] at h
 have h2:=zED.1 h.2
 refine fun j hj=>(h2 _ ?_).1
 rw [List.getD_eq_getElem?_getD,List.getElem?_eq_getElem hj];exact List.getElem_mem hj
theorem Ctx.set (C:Ctx q i pos):Sm q.symbols.toNat (con q i).set:=by
 have h:=C.fine
 unfold zC9 at h
 simp only [Bool.and_eq_true,decide_eq_true_iff] at h
 have h2:=zED.1 h.1.1.1.2 (con q i).set (by simp)
 have:(0:Int)<2 ^ q.symbols.toNat:=Int.pow_pos (by decide)
 exact ⟨h2.1,by omega⟩
structure RK (q:zAB) (c:zAC) (pos:List Int) (y:List Int×Bool):Prop where
 no:y.2=false→¬ zVi q c pos
 ok:y.2=true→okC q c pos
 len:y.2=true→y.1.length=pos.length
 lost:y.2=true→∀ j s,j<pos.length→tb (pos.getD j 0) s=true→(tb (y.1.getD j 0) s=true↔LC q c pos j s)
theorem RK.of {D:Nat→Nat→Prop} {ok:Prop} {y:List Int×Bool} (h:KR q c pos D ok y) (ho:ok↔okC q c pos) (hD: ∀ j s,j<pos.length→tb (pos.getD j 0) s=true→(D j s↔LC q c pos j s)):RK q c pos y where
 no:=fun h1 hA=>by have:=h.1.2 (ho.2 hA.ok);rw [h1] at this;cases this
 ok:=fun h1=>ho.1 (h.1.1 h1)
 len:=fun h1=>(h.2 h1).1.1
 lost:=fun h1 j s hj hs=>((h.2 h1).2 j s).trans (hD j s hj hs)
theorem zH2 {k:Int} (hk:c.kind=k) (h2:k≠2) (h3:k≠3) (h5:k≠5) (h9:k≠9):okC q c pos:=⟨fun h=>absurd (hk.symm.trans h) h2,fun h=>absurd (hk.symm.trans h) h3,fun h=>absurd (hk.symm.trans h) h5,fun h=>absurd (hk.symm.trans h) h9⟩
theorem zY1 {D:Nat→Nat→Prop} {E:Nat→Nat→Prop} (hL: ∀ a s,zC7 q c pos a s↔E a s) {j s:Nat} (h:(∃ a,a<c.cells.length∧(c.cells.getD a 0).toNat=j∧E a s)↔D j s):D j s↔LC q c pos j s:=by
 unfold LC
 simp only [hL]
 exact h.symm
theorem cho (H:RW q c pos) {F:Nat→Nat→Bool} {E:Nat→Nat→Prop} (hL: ∀ a s,zC7 q c pos a s↔E a s) (hE: ∀ a s,a<c.cells.length→s<q.symbols.toNat→tb (zAI c pos a) s=true→(F a s=false↔E a s)) {j s:Nat} (hj:j<pos.length) (hs:tb (pos.getD j 0) s=true):zXE q c pos F c.cells.length j s↔LC q c pos j s:=by
 refine zY1 (E:=E) (D:=zXE q c pos F c.cells.length) hL ⟨?_,?_⟩
 ·rintro ⟨a,ha,rfl,h⟩
  have hsk:=H.low (H.W.at ha) hs
  exact ⟨a,ha,rfl,hsk,hs,(hE a s ha hsk hs).2 h⟩
 ·rintro ⟨a,ha,e,hsk,hs,h⟩
  exact ⟨a,ha,e,(hE a s ha hsk hs).1 h⟩
theorem za5 (W:zBc c q pos) {E:Nat→Nat→Prop} (hL: ∀ a s,zC7 q c pos a s↔E a s) {j s:Nat} (hj:j<pos.length) (hs:tb (pos.getD j 0) s=true):(tb (pos.getD j 0) s=true∧E j s)↔LC q c pos j s:=by
 refine zY1 (E:=E) (D:=fun j s=>tb (pos.getD j 0) s=true∧E j s) hL ⟨?_,?_⟩
 ·rintro ⟨a,ha,rfl,h⟩
  rw [W.id a (by rw [←W.len];exact ha),Int.toNat_natCast] at hs ⊢
  exact ⟨hs,h⟩
 ·rintro ⟨_,h⟩
  exact ⟨j,by rw [W.len];exact hj,by rw [W.id j hj,Int.toNat_natCast],h⟩
theorem zRQ (C:Ctx q i pos) (hd:zFR pos=false):PEv (fun n=>zB1 n q (con q i) pos) (RK q (con q i) pos):=by
 have H:=C.rw hd
 have W:=H.W
 have k16:=W.k
 have kc:=zCn (zEU C.kind)
 have hnd:=C.cells.2.1
 generalize hcon:con q i=c at*
 have plain: ∀ {f:Nat→Option (List Int)} {D:Nat→Nat→Prop},PEv f (RL pos D)→okC q c pos→(∀ j s,j<pos.length→tb (pos.getD j 0) s=true→(D j s↔LC q c pos j s))→PEv (fun n=>(f n).bind fun y1=>some (y1,true)) (RK q c pos):=fun {f D} hf hok hD=>by
  obtain ⟨N,hN⟩:=hf
  refine ⟨N,fun n hn=>?_⟩
  obtain ⟨l,h1,h2⟩:=hN n hn
  refine ⟨(l,true),by show (f n).bind _=_;rw [h1,Option.bind_some],fun h=>(by cases h),fun _=>hok,fun _=>h2.1.1,fun _ j s hj hs=>(h2.2 j s).trans (hD j s hj hs)⟩
 have pairK: ∀ {f:Nat→Option (List Int×Bool)} {D:Nat→Nat→Prop} {ok:Prop},PEv f (KR q c pos D ok)→(ok↔okC q c pos)→(∀ j s,j<pos.length→tb (pos.getD j 0) s=true→(D j s↔LC q c pos j s))→PEv (fun n=>(f n).bind fun y1=>some (y1.1,y1.2)) (RK q c pos):=fun {f D ok} hf hok hD=>by
  obtain ⟨N,hN⟩:=hf
  refine ⟨N,fun n hn=>?_⟩
  obtain ⟨l,h1,h2⟩:=hN n hn
  exact ⟨l,by show (f n).bind _=_;rw [h1,Option.bind_some],RK.of h2 hok hD⟩
 rcases kc with hk | hk | hk | hk | hk | hk | hk | hk | hk
 ·refine (plain (zZ2 H) (zH2 hk (by decide) (by decide) (by decide) (by decide)) fun j s hj hs=>?_).eq fun n=>by unfold zB1 zBN;rw [hk];rfl
  refine zY1 (E:=zVT c pos) (D:=zSs c pos q.symbols.toNat) (fun a s=>by unfold zC7;rw [hk];simp) ⟨?_,?_⟩
  ·rintro ⟨a,ha,rfl,h⟩
   exact (zPg H ha hs hnd).2 h
  ·intro h
   obtain ⟨a,b,ha,hb,h1,h2,h3,h4⟩:=h
   have h:zSs c pos q.symbols.toNat (c.cells.getD a 0).toNat s:=⟨a,b,ha,hb,h1,h2,h3,rfl⟩
   subst h4
   exact ⟨a,ha,rfl,(zPg H ha hs hnd).1 h⟩
 ·refine (pairK (zXC H) ⟨fun h=>⟨fun _=>h,fun h=>absurd (hk.symm.trans h) (by decide),fun h=>absurd (hk.symm.trans h) (by decide),fun h=>absurd (hk.symm.trans h) (by decide)⟩,fun h=>h.1 hk⟩ fun j s hj hs=>?_).eq fun n=>by unfold zB1 zBN;rw [hk];rfl
  refine zY1 (E:=fun a s=>zF9 c pos a s=true) (D:=zFo c pos c.cells.length) (fun a s=>by unfold zC7;rw [hk];simp) ⟨?_,?_⟩
  ·rintro ⟨a,ha,rfl,h⟩
   refine ⟨a,ha,rfl,?_⟩
   unfold zF9 at h
   simp only [Bool.or_eq_true,Bool.and_eq_true,beq_iff_eq,Bool.not_eq_true'] at h
   rcases h with ⟨⟨h1,h2⟩,h3⟩ | ⟨⟨h1,h2⟩,h3⟩
   ·exact .inl ⟨h1,by unfold zFQ;simpa using h2,hs,h3⟩
   ·exact .inr ⟨h1,by unfold may;simp only [Bool.or_eq_true];exact .inr h2,hs,h3⟩
  ·rintro ⟨a,ha,e,h⟩
   refine ⟨a,ha,e,?_⟩
   unfold zF9
   simp only [Bool.or_eq_true,Bool.and_eq_true,beq_iff_eq,Bool.not_eq_true']
   rcases h with ⟨h1,h2,h3,h4⟩ | ⟨h1,h2,h3,h4⟩
   ·exact .inl ⟨⟨h1,by unfold zFQ at h2;simpa using h2⟩,h4⟩
   ·refine .inr ⟨⟨h1,?_⟩,h4⟩
    unfold may at h2
    rw [Bool.or_eq_true] at h2
    refine h2.elim (fun h=>?_) id
    unfold zFQ at h
    rw [zX6 (beq_iff_eq.1 h) h3] at h4;cases h4
 ·refine (pairK (zbt H) ⟨fun h=>⟨fun h=>absurd (hk.symm.trans h) (by decide),fun _=>h,fun h=>absurd (hk.symm.trans h) (by decide),fun h=>absurd (hk.symm.trans h) (by decide)⟩,fun h=>h.2.1 hk⟩ fun j s hj hs=>?_).eq fun n=>by unfold zB1 zBN;rw [hk];rfl
  refine zY1 (E:=fun a s=>zSS q c pos a s=true) (D:=zWt q c pos c.cells.length) (fun a s=>by unfold zC7;rw [hk];simp) ⟨?_,?_⟩
  ·rintro ⟨a,ha,rfl,h⟩
   exact ⟨a,ha,rfl,H.low (W.at ha) hs,hs,h⟩
  ·rintro ⟨a,ha,e,_,_,h⟩
   exact ⟨a,ha,e,h⟩
 ·refine (plain (zE4 H (F:=fun a s=>decide (RE q c pos a s c.cells.length (-1))) fun a s ha hs=>?_) (zH2 hk (by decide) (by decide) (by decide) (by decide)) fun j s hj hs=>cho H (E:=fun a s=>zKj q c pos a s=true) (fun a s=>by unfold zC7;rw [hk];simp) (fun a s ha _ ht=>?_) hj hs).eq fun n=>by unfold zB1 zBN;rw [hk];rfl
  ·refine (zPS H (a:=a) (s:=s) c.cells.length (Nat.le_refl _) (-1)).eq fun n=>?_
   unfold zcQ
   rw [hk,Nat.sub_self];rfl
  ·rw [decide_eq_false_iff_not,zbq H ha ht,Bool.not_eq_false]
 ·have R:=C.runs
  have R1:=C.runs1
  rw [hcon] at R R1
  have hset:=C.set
  rw [hcon] at hset
  have EA:=zSk H R R1 (a:=c.cells.length) (at_:=-1) (inn:=true) (fun i hi=>⟨fun h=>absurd h (by omega),fun h=>absurd h (by omega)⟩) c.cells.length (Nat.le_refl _) 0 0 (Int.le_refl _) (by omega) (Int.le_refl _) (by decide)
  rw [Nat.sub_self] at EA
  have ho:(c.cells.length=0→c.runs.length=0)→okC q c pos:=fun h=>⟨fun h=>absurd (hk.symm.trans h) (by decide),fun h=>absurd (hk.symm.trans h) (by decide),fun _=>by
   unfold zGn
   by_cases h0:c.cells.length=0
   ·rw [h h0];simp
   ·simp [h0],fun h=>absurd (hk.symm.trans h) (by decide)⟩
  have LK: ∀ a s,zC7 q c pos a s↔zKg c pos a s:=fun a s=>by unfold zC7;rw [hk];simp
  refine PEv.eq (g:=fun n=>(zDZ n c pos 0 0 0 (-1) true).bind fun y1=>bif (!y1) then some (pos,false) else (zGS n q c pos).bind fun y2=>some (y2,true)) ?_ fun n=>by unfold zB1 zBN;rw [hk];rfl
  refine PEv.bind EA ?_
  by_cases hy:RY c pos c.cells.length true c.cells.length 0 0
  ·rw [decide_eq_true hy]
   have hy:=(za8 R1).1 hy
   refine (plain (zE4 H (F:=fun a s=>decide (RY c pos a (tb c.set s) c.cells.length 0 0)) fun a s ha hs=>?_) (ho hy.1) fun j s hj hs=>cho H (E:=zKg c pos) LK (fun a s ha _ ht=>?_) hj hs).eq fun n=>rfl
   ·obtain ⟨s1,s2,s3⟩:=H.sym hs
    have EB:=zSk H R R1 (a:=a) (at_:=(a:Int)) (inn:=tb c.set s) (fun i hi=>⟨fun h=>by omega,fun h=>by omega⟩) c.cells.length (Nat.le_refl _) 0 0 (Int.le_refl _) (by omega) (Int.le_refl _) (by decide)
    rw [Nat.sub_self] at EB
    refine EB.eq fun n=>?_
    unfold zcQ
    rw [hk,zE1 hset (by omega) (by omega)];rfl
   ·rw [decide_eq_false_iff_not,zcg ha,zSY]
  ·rw [decide_eq_false hy]
   refine (Ev.now (r:=(pos,false)) fun n=>rfl).p ⟨fun _ hA=>hy ((za8 R1).2 ⟨fun h0=>?_,fun h0=>?_⟩),fun h=>(by cases h),fun h=>(by cases h),fun h=>(by cases h)⟩
   ·have h:=hA.ok.2.2.1 hk
    unfold zGn at h
    rw [h0] at h
    simpa using h
   ·have hc:=W.cells 0 h0
    obtain ⟨s,_,h1,h2⟩:=hA.left (c.cells.getD 0 0).toNat (by omega)
    refine Classical.byContradiction fun hn=>h2 ⟨0,h0,rfl,(LK 0 s).2 (zSY.2 fun hcn=>hn ?_)⟩
    cases hb:tb c.set s
    ·rw [hb] at hcn;exact .inr hcn
    ·rw [hb] at hcn;exact .inl hcn
 ·have h2:=C.two
  rw [hcon] at h2
  have h2:=h2 (.inl hk)
  have eo:okP q c=okA q c:=by funext s t;unfold okP;rw [hk];rfl
  refine (plain (zE4 H (F:=fun a s=>zYu (zcU q c pos a s) q.symbols.toNat 0) fun a s ha hs=>?_) (zH2 hk (by decide) (by decide) (by decide) (by decide)) fun j s hj hs=>cho H (E:=zHC (okA q c) c pos) (fun a s=>by unfold zC7;rw [hk];simp) (fun a s ha _ ht=>?_) hj hs).eq fun n=>by unfold zB1 zBN;rw [hk];rfl
  ·refine (zMm H (.inl hk) h2 hnd (by omega) hs).eq fun n=>?_
   unfold zcQ
   rw [hk];rfl
  ·rw [←eo];exact zTB H h2 (by omega)
 ·have h2:=C.two
  rw [hcon] at h2
  have h2:=h2 (.inr hk)
  have eo:okP q c=okN c:=by funext s t;unfold okP;rw [hk];rfl
  refine (plain (zE4 H (F:=fun a s=>zYu (zcU q c pos a s) q.symbols.toNat 0) fun a s ha hs=>?_) (zH2 hk (by decide) (by decide) (by decide) (by decide)) fun j s hj hs=>cho H (E:=zHC (okN c) c pos) (fun a s=>by unfold zC7;rw [hk];simp) (fun a s ha _ ht=>?_) hj hs).eq fun n=>by unfold zB1 zBN;rw [hk];rfl
  ·refine (zMm H (.inr hk) h2 hnd (by omega) hs).eq fun n=>?_
   unfold zcQ
   rw [hk];rfl
  ·rw [←eo];exact zTB H h2 (by omega)
 ·have WA:=C.all
  rw [hcon] at WA
  have WA:=WA (.inl hk) hd
  exact (plain (zNw H WA) (zH2 hk (by decide) (by decide) (by decide) (by decide)) fun j s hj hs=>za5 WA (fun a s=>by unfold zC7;rw [hk];simp) hj hs).eq fun n=>by unfold zB1 zBN;rw [hk];rfl
 ·have WA:=C.all
  rw [hcon] at WA
  have WA:=WA (.inr hk) hd
  exact (pairK (zZw H WA) ⟨fun h=>⟨fun h=>absurd (hk.symm.trans h) (by decide),fun h=>absurd (hk.symm.trans h) (by decide),fun h=>absurd (hk.symm.trans h) (by decide),fun _=>h⟩,fun h=>h.2.2.2 hk⟩ fun j s hj hs=>za5 WA (fun a s=>by unfold zC7;rw [hk];simp) hj hs).eq fun n=>by unfold zB1 zBN;rw [hk];rfl
end
end Go.Proofs.YtekkngkphejfcaaGreatDoor
namespace Go.Proofs.YtekkngkphejfcaaGreatDoor
open Go.RowKit
set_option maxRecDepth 100000
set_option maxHeartbeats 40000000
def zMw (n:Nat) (q:zAB) (i:Int) (pos:List Int):Option Bool:=
 (zcf n).bind fun y1=>
  bif (!y1) then
   some false
  else
   (few n q pos).bind fun y2=>
    bif (!y2) then
     some true
    else
     (zHw n q i pos).bind fun y3=>
      (zK2 n q i pos).bind fun y4=>
       (zRd n q i pos).bind fun y5=>
        (zUQ n q i pos).bind fun y6=>
         (same n y3.1 y4.1).bind fun y7=>
          bif y7 then
           bif (y3.2==y4.2) then
            (zCO n y5.1 y6.1).bind fun y8=>
             bif y8 then
              some (y5.2==y6.2)
             else
              some false
           else
            some false
          else
           some false
def zRg (n:Nat) (q:zAB) (i:Int) (pos:List Int):Option Bool:=zMw n q i pos
theorem zUh {n:Nat} {q:zAB} {i:Int} {pos:List Int} {r:Bool} (h:zRg n q i pos=some r):EQ 3 [.agg 5 (L1 (zAE q)),.i i,.ints pos] [] (.bool r) [] true:=by
 unfold zRg zMw at h
 refine ot Tryz.func3 fun B N=>?_
 revert r
 apply gO
 exact cf zbY [some (.cells (zAE q))] fun _=>bi 16 (lE zAH [6] []) (cf zdB [some (.cells (zAE q))] fun _=>bi 20 (lE zAH [6] []) (cf zLB [some (.cells (zAE q))] fun _=>cf zWy [some (.cells (zAE q))] fun _=>cf zTD [some (.cells (zAE q))] fun _=>cf zZr [some (.cells (zAE q))] fun _=>cf zV8 [some (.cells (zAE q))] fun _=>bi 51 (bi 55 (cf zJN [some (.cells (zAE q))] fun _=>bi 60 (lE zAH [6] []) (lE zAH [6] [])) (lE zAH [6] [])) (lE zAH [6] [])))
end Go.Proofs.YtekkngkphejfcaaGreatDoor
namespace Go.Proofs.YtekkngkphejfcaaGreatDoor
open Go.RowKit
section
variable {q:zAB} {i:Int} {pos x:List Int}
theorem zPU (C:Ctx q i pos) (hd:zFR pos=false) {y:List Int×Bool} (hy:RK q (con q i) pos y) {n:Nat} (hn:520≤n):
 ∃ x,(bif (!y.2) then some (List.replicate pos.length (0:Int)) else zC5 q (con q i) pos n (.l1 y.1 0 0 ([]:List Int)))=some x∧PR q (con q i) pos x:=by
 have h256:=C.len256
 have L:LIM=1000000000000:=rfl
 obtain ⟨lost,b⟩:=y
 cases b
 ·exact ⟨_,rfl,zL8,fun hA=>absurd hA (hy.no rfl),fun _=>rfl⟩
 have hok:okC q (con q i) pos:=hy.ok rfl
 have hlen:lost.length=pos.length:=hy.len rfl
 have hlost: ∀ j s,j<pos.length→tb (pos.getD j 0) s=true→(tb (lost.getD j 0) s=true↔LC q (con q i) pos j s):=hy.lost rfl
 rw [show (!true)=false from rfl,cond_false]
 have key: ∀ (k j n:Nat) (o:List Int),j+k=pos.length→k+258≤n→o.length=j→(∀ a,a<j→o.getD a 0=bits .andNot .i64 (pos.getD a 0) (lost.getD a 0))→∃ x:List Int,(x.length=pos.length∧∀ a,a<pos.length→x.getD a 0=bits .andNot .i64 (pos.getD a 0) (lost.getD a 0))∧zC5 q (con q i) pos n (.l1 lost o.length (j:Int) o)=some (if zFR x then List.replicate pos.length 0 else x):=by
  intro k
  induction k with
  | zero=>
   intro j n o e hn ho hI
   obtain ⟨n,rfl⟩: ∃ k,n=k+1:=⟨n-1,by omega⟩
   refine ⟨o,⟨by omega,fun a ha=>hI a (by omega)⟩,?_⟩
   show zEJ n (zC5 q (con q i) pos n) q (con q i) pos lost o.length (j:Int) o=_
   unfold zEJ
   rw [decide_eq_false (by omega),cond_false,if_pos rfl,zNt (by omega) (by omega),Option.bind_some]
   cases zFR o <;> rfl
  | succ k ih=>
   intro j n o e hn ho hI
   obtain ⟨n,rfl⟩: ∃ k,n=k+1:=⟨n-1,by omega⟩
   have hs:=zGx (S:=lost.getD j 0) (C.sm j (by omega)) (Nat.le_trans C.work.k (by decide))
   obtain ⟨x,h1,h2⟩:=ih (j+1) n (o++[bits .andNot .i64 (pos.getD j 0) (lost.getD j 0)]) (by omega) (by omega) (by simp;omega) fun a ha=>by
    by_cases ea:a=j
    ·subst ea
     rw [List.getD_eq_getElem?_getD,List.getElem?_append_right (by omega),show a-o.length=0 by omega];rfl
    ·rw [List.getD_eq_getElem?_getD,List.getElem?_append_left (by omega),←List.getD_eq_getElem?_getD]
     exact hI a (by omega)
   rw [List.length_append] at h2
   refine ⟨x,h1,Eq.trans ?_ h2⟩
   show zEJ n (zC5 q (con q i) pos n) q (con q i) pos lost o.length (j:Int) o=_
   unfold zEJ
   rw [decide_eq_true (by omega),cond_true,Int.toNat_natCast,hs,if_pos ⟨⟨by omega,by omega⟩,⟨by omega,by omega⟩,zAG.2 (zAl _ _ _),⟨⟨rfl,rfl⟩,⟨rfl,rfl⟩,by show o.length+1≤_;omega⟩,zAG.2 ⟨by omega,by omega⟩⟩]
   rfl
 obtain ⟨x,⟨h1,h2⟩,h3⟩:=key pos.length 0 n [] (by omega) (by omega) rfl fun a ha=>absurd ha (Nat.not_lt_zero a)
 have hx: ∀ j,j<pos.length→zEg (x.getD j 0)∧∀ s,tb (x.getD j 0) s=true↔tb (pos.getD j 0) s=true∧¬ LC q (con q i) pos j s:=fun j hj=>by
  rw [h2 j hj]
  refine ⟨zAl _ _ _,fun s=>?_⟩
  rw [zAp,Bool.and_eq_true,Bool.not_eq_true',←Bool.not_eq_true]
  exact ⟨fun ⟨h4,h5⟩=>⟨h4,fun h=>h5 ((hlost j s hj h4).2 h)⟩,fun ⟨h4,h5⟩=>⟨h4,fun h=>h5 ((hlost j s hj h4).1 h)⟩⟩
 have nz:=zBQ.1 hd
 refine ⟨_,h3,?_,fun hA j hj=>?_,fun hA=>?_⟩
 ·split
  ·exact zL8
  ·exact h1
 ·rw [if_neg]
  ·exact hx j hj
  ·rw [Bool.not_eq_true,zBQ]
   intro j hj
   rw [h1] at hj
   obtain ⟨s,hs,h4,h5⟩:=hA.left j hj
   exact (zB9 (hx j hj).1).2 ⟨s,hs,((hx j hj).2 s).2 ⟨h4,h5⟩⟩
 ·rw [if_pos]
  refine Classical.byContradiction fun h=>hA ?_
  rw [Bool.not_eq_true,zBQ] at h
  refine ⟨nz,hok,fun j hj=>?_⟩
  obtain ⟨s,hs,h4⟩:=(zB9 (hx j hj).1).1 (h j (by omega))
  exact ⟨s,hs,((hx j hj).2 s).1 h4⟩
theorem zUN (C:Ctx q i pos): ∃ x,Ev (fun n=>zB6 n q (con q i) pos) x∧PR q (con q i) pos x:=by
 have h256:=C.len256
 cases hd:zFR pos
 ·suffices H:PEv (fun n=>zB6 n q (con q i) pos) (PR q (con q i) pos) by
   obtain ⟨x,h1,h2⟩:=H.ev PR.uniq
   exact ⟨x,h2,h1⟩
  obtain ⟨N,hN⟩:=PEv.bindU (zRQ C hd) (b:=fun n y2=>bif (!y2.2) then some (List.replicate pos.length (0:Int)) else zC5 q (con q i) pos n (.l1 y2.1 0 0 ([]:List Int))) (Q:=PR q (con q i) pos) ⟨520,fun n hn y2 hy=>zPU C hd hy hn⟩
  refine ⟨N+300,fun n hn=>?_⟩
  obtain ⟨x,h1,h2⟩:=hN n (by omega)
  refine ⟨x,Eq.trans ?_ h1,h2⟩
  show zB6 n q (con q i) pos=_
  unfold zB6 zIi
  rw [if_pos ⟨zL8.symm,rfl,by omega,by omega⟩,zNt (by omega) (by omega),hd,Option.bind_some,cond_false]
 ·refine ⟨List.replicate pos.length 0,⟨300,fun n hn=>?_⟩,zL8,fun hA=>?_,fun _=>rfl⟩
  ·show zB6 n q (con q i) pos=_
   unfold zB6 zIi
   rw [if_pos ⟨zL8.symm,rfl,by omega,by omega⟩,zNt (by omega) (by omega),hd,Option.bind_some,cond_true]
  ·have:=zBQ.2 hA.nz
   rw [hd] at this;cases this
theorem zIh (hF:Fit q) (hl:pos.length≤LB):Ev (fun n=>zG4 n q i pos) (zEZ q i pos):=⟨szP q+pos.length+1,fun n hn=>zUM hF (by omega) hl (by omega)⟩
theorem zWz (C:Ctx q i pos) (hx:Ev (fun n=>zB6 n q (con q i) pos) x):Ev (fun n=>zK2 n q i pos) (x,0):=by
 have h256:=C.len256
 have hE:=zIh (i:=i) (pos:=pos) C.fit (Nat.le_trans h256.2 (by decide))
 rw [C.check] at hE
 refine Ev.eq (Ev.bind hE (b:=fun n y1=>bif (y1 != 0) then some (([]:List Int),y1) else if 0≤i∧i<(q.cons.length:Int) then (zB6 n q (q.cons.getD i.toNat default) pos).bind fun y2=>some (y2,0) else none) ?_) fun n=>rfl
 refine Ev.eq (Ev.bind hx (b:=fun _ y2=>some (y2,(0:Int))) (Ev.now fun n=>rfl)) fun n=>?_
 rw [show ((0:Int) != 0)=false from rfl,cond_false,if_pos ⟨C.i0,C.i1⟩];rfl
theorem zMW {α:Type} {r:α→α→Prop} (irr: ∀ a,¬ r a a) (asy: ∀ a b,r a b→¬ r b a): ∀ (l l':List α),l.Pairwise r→l'.Pairwise r→(∀ x,x∈l↔x∈l')→l=l'
 | [],[],_,_,_=>rfl
 | [],b::l',_,_,h=>absurd ((h b).2 List.mem_cons_self) List.not_mem_nil
 | a::l,[],_,_,h=>absurd ((h a).1 List.mem_cons_self) List.not_mem_nil
 | a::l,b::l',h1,h2,h=>by
  rw [List.pairwise_cons] at h1 h2
  have e:a=b:=by
   rcases List.mem_cons.1 ((h a).1 List.mem_cons_self) with e | e
   ·exact e
   ·rcases List.mem_cons.1 ((h b).2 List.mem_cons_self) with e' | e'
    ·exact e'.symm
    ·exact absurd (h1.1 b e') (asy _ _ (h2.1 a e))
  subst e
  refine congrArg _ (zMW irr asy l l' h1.2 h2.2 fun x=>⟨fun hx=>?_,fun hx=>?_⟩)
  ·rcases List.mem_cons.1 ((h x).1 (List.mem_cons_of_mem _ hx)) with e | e
   ·subst e;exact absurd (h1.1 _ hx) (irr _)
   ·exact e
  ·rcases List.mem_cons.1 ((h x).2 (List.mem_cons_of_mem _ hx)) with e | e
   ·subst e;exact absurd (h2.1 _ hx) (irr _)
   ·exact e
def Lp (k:Nat) (pos x:List Int) (j t:Nat) (o:List (Int×Int)):Prop:=o.length≤16*j+t∧o.Pairwise zaZ∧∀ p,p∈o↔∃ a s:Nat,p=((a:Int),(s:Int))∧(a<j∨(a=j∧s<t))∧s<k∧tb (pos.getD a 0) s=true∧tb (x.getD a 0) s=false
theorem zZt (C:Ctx q i pos) (hx:Ev (fun n=>zB6 n q (con q i) pos) x) (hP:PR q (con q i) pos x):Ev (fun n=>zUQ n q i pos) (zHE pos x pos.length,0):=by
 have h256:=C.len256
 have L:LIM=1000000000000:=rfl
 have k16:=C.work.k
 obtain ⟨_,hsy,_⟩:=zAo C.valid
 have ek:((q.symbols.toNat:Nat):Int)=q.symbols:=by omega
 have hE:=zIh (i:=i) (pos:=pos) C.fit (Nat.le_trans h256.2 (by decide))
 rw [C.check] at hE
 have smx: ∀ j,Sm q.symbols.toNat (x.getD j 0):=fun j=>by
  refine zV0 (Nat.le_trans k16 (by decide)) (hP.in64 j) fun s h1 h2=>?_
  cases hb:tb (x.getD j 0) s
  ·rfl
  ·obtain ⟨h3,h4⟩:=hP.sub hb
   rw [(C.sm j h3).hi h1] at h4;cases h4
 have hxl:=hP.len
 obtain ⟨o,ho,g⟩:=zD7 (m:=zBv q i pos) (fun j (o:List (Int×Int))=>.l1 x o.length (j:Int) o) (fun j o=>Lp q.symbols.toNat pos x j 0 o) pos.length (fun j o hj hI=>by
  obtain ⟨o',ho',g2⟩:=zD7 (m:=zBv q i pos) (fun s (o:List (Int×Int))=>.l2 x o.length (j:Int) (s:Int) o) (fun s o=>Lp q.symbols.toNat pos x j s o) q.symbols.toNat (fun s o hs hI=>by
   obtain ⟨h1,h2,h3⟩:=hI
   have r1:R64 ((s:Int)+1):=zAG.2 ⟨by omega,by omega⟩
   have U: ∀ n,zBv q i pos (n+1) (.l2 x o.length (j:Int) (s:Int) o)=bif tb (pos.getD j 0) s&&!tb (x.getD j 0) s then zBv q i pos n (.l2 x (o++[((j:Int),(s:Int))]).length (j:Int) ((s+1:Nat):Int) (o++[((j:Int),(s:Int))])) else zBv q i pos n (.l2 x o.length (j:Int) ((s+1:Nat):Int) o):=fun n=>by
    show zHn n (zBv q i pos n) q i pos x o.length (j:Int) (s:Int) o=_
    unfold zHn
    simp only [Int.toNat_natCast]
    rw [decide_eq_true (by omega),cond_true,if_pos ⟨by omega,by omega⟩,zE1 (C.sm j hj) (by omega) (by omega),Option.bind_some,if_pos ⟨by omega,by omega⟩,zE1 (smx j) (by omega) (by omega),Option.bind_some,if_pos r1,if_pos ⟨trivial,by show o.length+1≤_;omega,r1⟩,List.length_append]
    cases tb (pos.getD j 0) s <;> cases tb (x.getD j 0) s <;> rfl
   cases hB:(tb (pos.getD j 0) s&&!tb (x.getD j 0) s)
   ·refine ⟨o,⟨by omega,h2,fun p=>(h3 p).trans ⟨fun ⟨a,t,e,h4,h5⟩=>⟨a,t,e,by omega,h5⟩,fun ⟨a,t,e,h4,h5⟩=>⟨a,t,e,?_,h5⟩⟩⟩,zA3.one fun n=>by rw [U n,hB,cond_false]⟩
    by_cases e2:a=j∧t=s
    ·obtain ⟨rfl,rfl⟩:=e2
     rw [h5.2.1,h5.2.2] at hB;cases hB
    ·omega
   ·rw [Bool.and_eq_true,Bool.not_eq_true'] at hB
    refine ⟨o++[((j:Int),(s:Int))],⟨by rw [List.length_append];show o.length+1≤_;omega,?_,fun p=>?_⟩,zA3.one fun n=>by rw [U n,hB.1,hB.2];rfl⟩
    ·refine List.pairwise_append.2 ⟨h2,List.pairwise_singleton _ _,fun p hp p' hp'=>?_⟩
     obtain ⟨a,t,rfl,h4,_⟩:=(h3 p).1 hp
     rw [List.mem_singleton.1 hp']
     rcases h4 with h4 | ⟨rfl,h4⟩
     ·exact .inl (by show (a:Int)<(j:Int);omega)
     ·exact .inr ⟨rfl,by show (t:Int)<(s:Int);omega⟩
    ·rw [List.mem_append,h3,List.mem_singleton]
     constructor
     ·rintro (⟨a,t,e,h4,h5⟩ | rfl)
      ·exact ⟨a,t,e,by omega,h5⟩
      ·exact ⟨j,s,rfl,.inr ⟨rfl,by omega⟩,hs,hB⟩
     ·rintro ⟨a,t,e,h4,h5⟩
      by_cases e2:a=j∧t=s
      ·obtain ⟨rfl,rfl⟩:=e2
       exact .inr e
      ·exact .inl ⟨a,t,e,by omega,h5⟩) q.symbols.toNat 0 o (by omega) hI
  refine ⟨o',⟨by have:=ho'.1;omega,ho'.2.1,fun p=>(ho'.2.2 p).trans ⟨fun ⟨a,t,e,h4,h5⟩=>⟨a,t,e,by omega,h5⟩,fun ⟨a,t,e,h4,h5⟩=>⟨a,t,e,by omega,h5⟩⟩⟩,(zA3.one (b:=.l2 x o.length (j:Int) ((0:Nat):Int) o) fun n=>?_).trans (g2.trans (zA3.one fun n=>?_))⟩
  ·show zHo n (zBv q i pos n) q i pos x o.length (j:Int) o=_
   unfold zHo
   rw [decide_eq_true (by omega),cond_true];rfl
  ·show zHn n (zBv q i pos n) q i pos x o'.length (j:Int) ((q.symbols.toNat:Nat):Int) o'=_
   unfold zHn
   rw [ek,decide_eq_false (by omega),cond_false,if_pos (zAG.2 ⟨by omega,by omega⟩)];rfl) pos.length 0 [] (by omega) ⟨Nat.zero_le _,List.Pairwise.nil,fun p=>⟨fun h=>(by cases h),fun ⟨a,t,_,h,_⟩=>absurd h (by omega)⟩⟩
 have eo:o=zHE pos x pos.length:=zMW (r:=zaZ) (fun a h=>h.elim (fun h=>Int.lt_irrefl _ h) fun h=>Int.lt_irrefl _ h.2) (fun a b h h'=>by unfold zaZ at h h';omega) _ _ ho.2.1 zP2 fun p=>by
  rw [zXf C hP,ho.2.2]
  exact ⟨fun ⟨a,t,e,h4,h5⟩=>⟨a,t,e,by omega,h5⟩,fun ⟨a,t,e,h4,h5⟩=>⟨a,t,e,.inl h4,h5⟩⟩
 subst eo
 refine Ev.eq (Ev.bind hE (b:=fun n y1=>bif (y1 != 0) then some (([]:List (Int×Int)),y1) else if 0≤i∧i<(q.cons.length:Int) then (zB6 n q (q.cons.getD i.toNat default) pos).bind fun y2=>zBv q i pos n (.l1 y2 0 0 ([]:List (Int×Int))) else none) ?_) fun n=>rfl
 refine Ev.eq (Ev.bind hx (b:=fun n y2=>zBv q i pos n (.l1 y2 0 0 ([]:List (Int×Int)))) (g.ev (Ev.one fun n=>?_))) fun n=>?_
 ·show zHo n (zBv q i pos n) q i pos x _ (pos.length:Int) _=_
  unfold zHo
  rw [decide_eq_false (by omega),cond_false,if_pos rfl]
 ·rw [show ((0:Int) != 0)=false from rfl,cond_false,if_pos ⟨C.i0,C.i1⟩];rfl
theorem zJP {l:List (Int×Int)} (hl:l.length≤LB): ∀ (k j n:Nat),j+k=l.length→k<n→zCl l l n (.l1 (j:Int))=some true
 | 0,j,n+1,e,_=>by
  show zC3 n (zCl l l n) l l (j:Int)=_
  unfold zC3
  rw [decide_eq_false (by omega),cond_false]
 | k+1,j,n+1,e,hn=>by
  have hb:LB≤9223372036854775806:=by decide
  have ih:=zJP hl k (j+1) n (by omega) (by omega)
  show zC3 n (zCl l l n) l l (j:Int)=_
  unfold zC3
  rw [decide_eq_true (by omega),cond_true,if_pos ⟨⟨by omega,by omega⟩,by omega,by omega⟩,beq_self_eq_true,beq_self_eq_true,if_pos (zAG.2 ⟨by omega,by omega⟩)]
  exact ih
theorem zOy {l:List (Int×Int)} (hl:l.length≤LB):Ev (fun n=>zCO n l l) true:=⟨l.length+1,fun n hn=>by
 show zCO n l l=_
 unfold zCO zJO
 rw [show ((l.length:Int) != (l.length:Int))=false by simp,cond_false]
 exact zJP hl l.length 0 n (by omega) (by omega)⟩
theorem zP5 (q:zAB) (i:Int) (pos:List Int) (hF:Fit q) (hl:pos.length≤LB):Ev (fun n=>zRg n q i pos) true:=by
 have same_ev: ∀ {l:List Int},l.length≤LB→Ev (fun n=>same n l l) true:=fun {l} h=>⟨l.length+1,fun n hn=>by show same n l l=_;rw [zbj h (by omega),decide_eq_true rfl]⟩
 refine zXq (q:=q) (pos:=pos) (f:=fun n=>(zHw n q i pos).bind fun y3=>(zK2 n q i pos).bind fun y4=>(zRd n q i pos).bind fun y5=>(zUQ n q i pos).bind fun y6=>(same n y3.1 y4.1).bind fun y7=>bif y7 then (bif (y3.2==y4.2) then (zCO n y5.1 y6.1).bind fun y8=>bif y8 then some (y5.2==y6.2) else some false else some false) else some false) (fun n=>rfl) ?_
 obtain ⟨v,x,o,p1,p2,p3,p4,hx,ho⟩: ∃ (v:Int) (x:List Int) (o:List (Int×Int)),Ev (fun n=>zHw n q i pos) (x,v)∧Ev (fun n=>zK2 n q i pos) (x,v)∧Ev (fun n=>zRd n q i pos) (o,v)∧Ev (fun n=>zUQ n q i pos) (o,v)∧x.length≤LB∧o.length≤LB:=by
  have hE:Ev (fun n=>zIO n q i pos) (zEZ q i pos):=⟨szP q+pos.length+1,fun n hn=>zQm hF (by omega) hl (by omega)⟩
  by_cases h0:zEZ q i pos=0
  ·have C:=Ctx.of hF h0
   have h256:=C.len256
   obtain ⟨x,h1,h2⟩:=zXJ C
   obtain ⟨x',h3,h4⟩:=zUN C
   have e:=h2.uniq _ _ h4
   subst e
   refine ⟨0,x,zHE pos x pos.length,?_,zWz C h3,zb7 C h1 h2,zZt C h3 h2,by rw [h2.len];exact hl,?_⟩
   ·refine Ev.eq (Ev.bind hE (b:=fun n y1=>bif (y1 != 0) then some (([]:List Int),y1) else (zCV n q i pos).bind fun y2=>some (y2,0)) ?_) fun n=>rfl
    rw [h0]
    exact Ev.bind h1 (b:=fun _ y2=>some (y2,0)) (Ev.now fun n=>rfl)
   ·have:=zLP (pos:=pos) (x:=x) pos.length
    have:(16384:Nat)≤LB:=by decide
    omega
  ·have hr:=zIh (i:=i) (pos:=pos) hF hl
   have hb:(zEZ q i pos != 0)=true:=by simpa using h0
   refine ⟨zEZ q i pos,[],[],?_,?_,?_,?_,Nat.zero_le _,Nat.zero_le _⟩
   ·exact Ev.eq (Ev.bind hE (b:=fun n y1=>bif (y1 != 0) then some (([]:List Int),y1) else (zCV n q i pos).bind fun y2=>some (y2,0)) (Ev.now fun n=>by rw [hb];rfl)) fun n=>rfl
   ·exact Ev.eq (Ev.bind hr (b:=fun n y1=>bif (y1 != 0) then some (([]:List Int),y1) else if 0≤i∧i<(q.cons.length:Int) then (zB6 n q (q.cons.getD i.toNat default) pos).bind fun y2=>some (y2,0) else none) (Ev.now fun n=>by rw [hb];rfl)) fun n=>rfl
   ·exact Ev.eq (Ev.bind hE (b:=fun n y1=>bif (y1 != 0) then some (([]:List (Int×Int)),y1) else (zCV n q i pos).bind fun y2=>zCW q i pos n (.l1 y2 0)) (Ev.now fun n=>by rw [hb];rfl)) fun n=>rfl
   ·exact Ev.eq (Ev.bind hr (b:=fun n y1=>bif (y1 != 0) then some (([]:List (Int×Int)),y1) else if 0≤i∧i<(q.cons.length:Int) then (zB6 n q (q.cons.getD i.toNat default) pos).bind fun y2=>zBv q i pos n (.l1 y2 0 0 ([]:List (Int×Int))) else none) (Ev.now fun n=>by rw [hb];rfl)) fun n=>rfl
 obtain ⟨N1,p1⟩:=p1
 obtain ⟨N2,p2⟩:=p2
 obtain ⟨N3,p3⟩:=p3
 obtain ⟨N4,p4⟩:=p4
 obtain ⟨N5,p5⟩:=same_ev hx
 obtain ⟨N6,p6⟩:=zOy ho
 refine ⟨N1+N2+N3+N4+N5+N6,fun n hn=>?_⟩
 have p1:zHw n q i pos=some (x,v):=p1 n (by omega)
 have p2:zK2 n q i pos=some (x,v):=p2 n (by omega)
 have p3:zRd n q i pos=some (o,v):=p3 n (by omega)
 have p4:zUQ n q i pos=some (o,v):=p4 n (by omega)
 have p5:same n x x=some true:=p5 n (by omega)
 have p6:zCO n o o=some true:=p6 n (by omega)
 show (zHw n q i pos).bind _=_
 rw [p1,Option.bind_some,p2,Option.bind_some,p3,Option.bind_some,p4,Option.bind_some]
 show (same n x x).bind _=_
 rw [p5,Option.bind_some,cond_true]
 show (bif (v==v) then (zCO n o o).bind _ else _)=_
 rw [beq_self_eq_true,cond_true,p6,Option.bind_some]
 rfl
end
end Go.Proofs.YtekkngkphejfcaaGreatDoor
namespace Go.Proofs.YtekkngkphejfcaaGreatDoor
open Go.ChangeShapes Go.WideShapes Go.ChangeAt Go.RowKit
def zIR (w:World) (cs:List Value) (l:List DV):Prop:=cs.length=l.length∧∀ j,j<l.length→zAU (fun _=>False) w (l.getD j .any) [] (cs.getD j undef)
def Rd (P:Program) (t:TypeId) (m:Nat) {α:Type} (c:α→List DV):Prop:=(∀ x,(c x).length=m)∧P.cellsOf t=m∧∀ {H:Type} (enc:TypeId×Value→H) (w:World) (fuel:Nat) (cs:List Value) (x:DataW H×List MemPlace),DataW.trod enc P w 0 (fun _=>true) true fuel t cs=some x→(∀ n∈x.1.weights P t,n≤reachBytes)→∃ y:α,zIR w cs (c y)
theorem zKG {H:Type} {P:Program} {e:TypeId}: ∀ {l:List (DataW H)} {d:DataW H} {n:Nat},d∈l→n∈d.weights P e→n∈DataW.weightsAll P e l
 | [],_,_,h,_=>by cases h
 | a::l,d,n,h,hn=>by
  unfold DataW.weightsAll
  rcases List.mem_cons.1 h with rfl | h
  ·exact List.mem_append_left _ hn
  ·exact List.mem_append_right _ (zKG h hn)
section
variable {P:Program} {t e:TypeId} {m:Nat}
theorem zIR.one {w:World} {v:Value} {d:DV} (h:zAU (fun _=>False) w d [] v):zIR w [v] [d]:=⟨rfl,fun j hj=>by
 have:j=0:=by simpa using hj
 subst this;exact h⟩
theorem zIR.app {w:World} {cs cs':List Value} {l l':List DV} (h:zIR w cs l) (h':zIR w cs' l'):zIR w (cs++cs') (l++l'):=by
 refine ⟨by simp [h.1,h'.1],fun j hj=>?_⟩
 rcases Nat.lt_or_ge j l.length with hl | hl
 ·have:=h.2 j hl
  have hc:j<cs.length:=by rw [h.1];exact hl
  simp only [List.getD_eq_getElem?_getD] at this ⊢
  rw [List.getElem?_append_left hl,List.getElem?_append_left hc];exact this
 ·have:=h'.2 (j-l.length) (by simp at hj;omega)
  simp only [List.getD_eq_getElem?_getD] at this ⊢
  rw [List.getElem?_append_right hl,List.getElem?_append_right (by rw [h.1];exact hl),h.1];exact this
theorem Rd.int {k:IntKind} (ht:P.underlying t=some (.int k)) (hc:P.cellsOf t=1):Rd P t 1 (fun n:Int=>[.int k n]):=⟨fun _=>rfl,hc,fun enc w fuel cs x h hw=>by
 obtain ⟨n,rfl,_⟩:=DataW.trod_int ht h
 exact ⟨n,.one rfl⟩⟩
theorem zTY {w:World} {a:Addr} {n:Nat} {cs:List Value} (h:w.cells? 0 a n=some cs):cs.length=n∧∀ j,j<n→w.cell? (a.add j)=some (cs.getD j undef):=by
 unfold World.cells? at h
 rw [if_pos (Nat.zero_le _)] at h
 have hl:cs.length=n:=by simpa using Lib.mapM_length h
 refine ⟨hl,fun j hj=>?_⟩
 obtain ⟨b,h1,h2⟩:=Lib.mapM_at h j j (by simp [hj])
 rw [h2,List.getD_eq_getElem?_getD,h1];rfl
theorem zVg {w:World} {a:Addr} {v:Value} (h:w.cell? a=some v): ∃ b o,a=⟨b,o,none⟩:=by
 obtain ⟨b,o,r⟩:=a
 cases r with
 | none=>exact ⟨b,o,rfl⟩
 | some r=>
  unfold World.cell? at h
  split at h
  ·simp at h
  ·cases h
theorem zQv (b o x:Nat):(⟨b,o,none⟩:Addr).add x=⟨b,o+x,none⟩:=by
 unfold Addr.add
 split
 ·rename_i e;subst e;rfl
 ·rfl
theorem Rd.row {α:Type} [Inhabited α] {c:α→List DV} (ht:P.underlying t=some (.slice e)) (hb:0<P.bytesOf e) (hm:0<m) (he:Rd P e m c) {H:Type} (enc:TypeId×Value→H) (w:World) (fuel:Nat) (cs:List Value) (x:DataW H×List MemPlace) (h:DataW.trod enc P w 0 (fun _=>true) true fuel t cs=some x) (hw: ∀ n∈x.1.weights P t,n≤reachBytes):
 ∃ (L:List α) (a:Option Addr) (cap:Nat),cs= [.slice a L.length cap]∧L.length≤cap∧L.length≤LB∧∀ i j,i<L.length→j<m→∃ b o u,a=some ⟨b,o,none⟩∧w.cell? ⟨b,o+(i*m+j),none⟩=some u∧zAU (fun _=>False) w ((c (L.getD i default)).getD j .any) [] u:=by
 rcases Deep.open_slice ht h with ⟨rfl,_⟩ | ⟨a,len,cap,m',n,D,Pl,rfl,_,hlc,hcap,hm',hx,hel⟩
 ·exact ⟨[],none,0,rfl,Nat.le_refl _,Nat.zero_le _,fun i j hi=>absurd hi (Nat.not_lt_zero i)⟩
 ·simp only [if_true] at hm'
  subst hm'
  subst hx
  have plain:0<len→∃ b o,a=⟨b,o,none⟩:=fun h0=>by
   obtain ⟨cs',h1,_⟩:=hel 0 (by omega)
   obtain ⟨g1,g2⟩:=zTY h1
   have g3:=g2 0 (by rw [he.2.1];exact hm)
   have e0:(a.add (0*P.cellsOf e)).add 0=a:=by simp [Addr.add]
   rw [e0] at g3
   exact zVg g3
  have pick: ∀ i,i<len→∃ y:α,∀ j,j<m→∃ b o u,a=⟨b,o,none⟩∧w.cell? ⟨b,o+(i*m+j),none⟩=some u∧zAU (fun _=>False) w ((c y).getD j .any) [] u:=fun i hi=>by
   obtain ⟨cs',h1,h2⟩:=hel i (by omega)
   obtain ⟨y,h3,h4⟩:=he.2.2 enc w n cs' _ h2 fun k hk=>hw k (by
    simp only [DataW.weights,ht]
    refine List.mem_cons_of_mem _ (List.mem_append_left _ (zKG (d:=D i) ?_ hk))
    exact List.mem_map.2 ⟨i,List.mem_range.2 hi,rfl⟩)
   obtain ⟨g1,g2⟩:=zTY h1
   obtain ⟨b,o,rfl⟩:=plain (by omega)
   refine ⟨y,fun j hj=>?_⟩
   have g3:=g2 j (by rw [he.2.1];exact hj)
   refine ⟨b,o,_,rfl,?_,h4 j (by rw [he.1];exact hj)⟩
   rw [←g3,he.2.1,zQv,zQv,Nat.add_assoc]
  have hL: ∃ L:List α,L.length=len∧∀ i,i<len→∀ j,j<m→∃ b o u,a=⟨b,o,none⟩∧w.cell? ⟨b,o+(i*m+j),none⟩=some u∧zAU (fun _=>False) w ((c (L.getD i default)).getD j .any) [] u:=by
   refine ⟨(List.range len).map fun i=>if hi:i<len then (pick i hi).choose else default,by simp,fun i hi=>?_⟩
   have:((List.range len).map fun i=>if hi:i<len then (pick i hi).choose else default).getD i default=(pick i hi).choose:=by
    simp [List.getD_eq_getElem?_getD,hi]
   rw [this]
   exact (pick i hi).choose_spec
  obtain ⟨L,rfl,hL⟩:=hL
  refine ⟨L,some a,_,rfl,hlc,?_,fun i j hi hj=>?_⟩
  ·have hk:=hw ((L.length+(m'-L.length))*P.bytesOf e) (by
    simp only [DataW.weights,ht,List.length_map,List.length_range]
    exact List.mem_cons_self)
   have h1:=Nat.le_mul_of_pos_right (L.length+(m'-L.length)) hb
   have h2:=Nat.le_trans h1 hk
   unfold reachBytes at h2
   unfold LB
   omega
  ·obtain ⟨b,o,u,g1,g2,g3⟩:=hL i hi j hj
   exact ⟨b,o,u,by rw [g1],g2,g3⟩
theorem Rd.rows {α:Type} [Inhabited α] {c:α→List DV} (ht:P.underlying t=some (.slice e)) (hc:P.cellsOf t=1) (hb:0<P.bytesOf e) (hm:0<m) (he:Rd P e m c):Rd P t 1 (fun L:List α=>[.sl m L.length (zAz c L)]):=⟨fun _=>rfl,hc,fun enc w fuel cs x h hw=>by
 obtain ⟨L,a,cap,rfl,h1,h2,h3⟩:=Rd.row ht hb hm he enc w fuel cs x h hw
 refine ⟨L,zIR.one ⟨a,cap,rfl,h1,h2,fun i j hi hj=>?_⟩⟩
 obtain ⟨b,o,u,g1,g2,g3⟩:=h3 i j hi hj
 exact ⟨b,o,u,g1,fun h=>h,g2,g3⟩⟩
theorem Rd.ints (ht:P.underlying t=some (.slice e)) (hc:P.cellsOf t=1) (hb:0<P.bytesOf e) (he:P.underlying e=some (.int .i64)) (hce:P.cellsOf e=1):Rd P t 1 zAS:=⟨fun _=>rfl,hc,fun enc w fuel cs x h hw=>by
 obtain ⟨L,a,cap,rfl,h1,h2,h3⟩:=Rd.row ht hb (Nat.zero_lt_one) (Rd.int he hce) enc w fuel cs x h hw
 refine ⟨L,.one ⟨a,cap,rfl,h1,h2,fun j hj=>?_⟩⟩
 obtain ⟨b,o,u,g1,g2,g3⟩:=h3 j 0 hj Nat.zero_lt_one
 refine ⟨b,o,g1,fun h=>h,?_⟩
 have:u= .int .i64 (L.getD j 0):=g3
 rw [←this,←g2];simp⟩
def zMB (P:Program):List Field→Nat→Nat→{α:Type}→(α→List DV)→Prop:=fun fs o n {α} c=>∀ (H:Type) (enc:TypeId×Value→H) (w:World) (fuel:Nat) (cs:List Value) (xs:List (DataW H×List MemPlace)),cs.length=n→(fs.mapM fun f=>DataW.trod enc P w 0 (fun _=>true) true fuel f.type ((cs.drop f.offset).take (P.cellsOf f.type)))=some xs→(∀ k∈DataW.weightsEach P (fs.map (·.type)) (xs.map (·.1)),k≤reachBytes)→∃ y:α,zIR w (cs.drop o) (c y)
theorem zMB.nil {o n:Nat} (ho:n=o):zMB P [] o n (fun _:Unit=>[]):=fun _ enc w fuel cs xs hl _ _=>⟨(),by rw [List.drop_of_length_le (by omega)];exact ⟨rfl,fun j hj=>absurd hj (Nat.not_lt_zero j)⟩⟩
theorem zMB.cons {α β:Type} {c:α→List DV} {c':β→List DV} {f:Field} {fs:List Field} {o n:Nat} (ho:f.offset=o) (hf:Rd P f.type m c) (hs:zMB P fs (o+m) n c'):zMB P (f::fs) o n (fun x:α×β=>c x.1++c' x.2):=fun _ enc w fuel cs xs hl h hw=>by
 rw [List.mapM_cons] at h
 obtain ⟨a,ha,h⟩:=Option.bind_eq_some_iff.1 h
 obtain ⟨ys,hys,e⟩:=Option.bind_eq_some_iff.1 h
 cases e
 obtain ⟨y,h1⟩:=hf.2.2 enc w fuel _ a ha fun k hk=>hw k (by simp only [List.map_cons,DataW.weightsEach];exact List.mem_append_left _ hk)
 obtain ⟨z,h2⟩:=hs _ enc w fuel cs ys hl hys fun k hk=>hw k (by simp only [List.map_cons,DataW.weightsEach];exact List.mem_append_right _ hk)
 refine ⟨(y,z),?_⟩
 have:cs.drop o=(cs.drop f.offset).take (P.cellsOf f.type)++cs.drop (o+m):=by
  rw [ho,hf.2.1,←List.drop_drop]
  exact (List.take_append_drop m (cs.drop o)).symm
 rw [this]
 exact h1.app h2
theorem Rd.struct {α β:Type} {c:α→List DV} {c':β→List DV} {fs:Array Field} (ht:P.underlying t=some (.struct fs)) (hc:P.cellsOf t=m) (hs:zMB P fs.toList 0 m c) (g:α→β) (hg: ∀ x,c x=c' (g x)) (hm: ∀ x,(c' x).length=m):Rd P t m c':=⟨hm,hc,fun enc w fuel cs x h hw=>by
 cases fuel with
 | zero=>simp [DataW.trod] at h
 | succ fuel=>
  unfold DataW.trod at h
  rw [ht] at h
  simp only at h
  split at h
  ·rename_i hl
   obtain ⟨xs,hxs,e⟩:=Option.map_eq_some_iff.1 h
   subst e
   obtain ⟨y,hy⟩:=hs _ enc w fuel cs xs (by rw [hl,hc]) hxs fun k hk=>hw k (by simp only [DataW.weights,ht];exact hk)
   exact ⟨g y,by rw [←hg];exact hy⟩
  ·cases h⟩
end
end Go.Proofs.YtekkngkphejfcaaGreatDoor
namespace Go.Proofs.YtekkngkphejfcaaGreatDoor
open Go.ChangeShapes Go.WideShapes Go.ChangeAt Go.RowKit
def RdV (P:Program) (t:TypeId) {α:Type} (d:α→DV):Prop:=∀ {H:Type} (enc:TypeId×Value→H) (w:World) (base:Nat) (v:Value) (x:DataW H) (ps:List MemPlace),Value.okWide P w .any base t v→DataW.Trod enc P w 0 (fun _=>true) true t v x ps→(∀ n∈x.weights P t,n≤reachBytes)→∃ y:α,zAU (fun _=>False) w (d y) [] v
section
variable {P:Program} {t e:TypeId}
theorem RdV.int {k:IntKind} (ht:P.underlying t=some (.int k)):RdV P t (fun n:Int=>.int k n):=fun enc w base v x ps hok _ _=>by
 obtain ⟨n,rfl⟩:=okWide_int ht hok
 exact ⟨n,rfl⟩
theorem RdV.one {α:Type} {c:α→List DV} (ht:P.underlying t=some (.slice e)) (h:Rd P t 1 c):RdV P t (fun x=>(c x).getD 0 .any):=fun enc w base v x ps hok ⟨fuel,hx⟩ hw=>by
 obtain ⟨a,len,cap,rfl⟩:=okWide_slice ht hok
 obtain ⟨y,h1,h2⟩:=h.2.2 enc w fuel _ _ hx hw
 exact ⟨y,by simpa [Value.cells] using h2 0 (by rw [h.1];exact Nat.zero_lt_one)⟩
theorem RdV.agg {α:Type} {m:Nat} {c:α→List DV} {fs:Array Field} (ht:P.underlying t=some (.struct fs)) (h:Rd P t m c):RdV P t (fun x=>.agg m (L1 (c x))):=fun enc w base v x ps hok ⟨fuel,hx⟩ hw=>by
 obtain ⟨cs,rfl,hcs⟩:=okWide_struct ht hok
 obtain ⟨y,h1,h2⟩:=h.2.2 enc w fuel _ _ hx hw
 have hm:(c y).length=m:=h.1 y
 have hsz:cs.size=m:=by
  have:cs.toList.length=(c y).length:=h1
  simpa [hm] using this
 refine ⟨y,cs,rfl,hsz,fun j hj=>?_⟩
 have:=h2 j (by rw [hm];exact hj)
 refine ⟨cs[j]'(by omega),by simp [hsz,hj],?_⟩
 have e:(Value.agg cs).cells.toList.getD j undef=cs[j]'(by omega):=by
  show cs.toList.getD j undef=_
  simp [List.getD_eq_getElem?_getD,hsz,hj]
 rw [e] at this
 exact this
def zML (P:Program) (ts:List TypeId) {α:Type} (ds:α→List DV):Prop:=∀ {H:Type} (enc:TypeId×Value→H) (w:World) (base:Nat) (vs:List Value) (xs:List (DataW H)) (ps:List MemPlace),(∀ (j:Nat) t v,ts[j]? =some t→vs[j]? =some v→Value.okWide P w .any base t v)→DataW.TrodAll enc P w 0 (fun _=>true) true ts vs xs ps→(∀ n∈DataW.weightsEach P ts xs,n≤reachBytes)→∃ y:α,(ds y).length=vs.length∧∀ j,j<vs.length→zAU (fun _=>False) w ((ds y).getD j .any) [] (vs.getD j undef)
theorem zML.nil:zML P [] (fun _:Unit=>[]):=fun enc w base vs xs ps _ h _=>by
 obtain ⟨rfl,_,_⟩:=trodAll_nil h
 exact ⟨(),rfl,fun j hj=>absurd hj (Nat.not_lt_zero j)⟩
theorem zML.cons {α β:Type} {d:α→DV} {ds:β→List DV} {ts:List TypeId} (h:RdV P t d) (hs:zML P ts ds):zML P (t::ts) (fun x:α×β=>d x.1::ds x.2):=fun enc w base vs xs ps hok h0 hw=>by
 obtain ⟨v,vs',x,xs',p,q,rfl,rfl,rfl,h1,h2⟩:=trodAll_cons h0
 obtain ⟨y,hy⟩:=h enc w base v x p (hok 0 t v rfl rfl) h1 fun n hn=>hw n (by simp only [DataW.weightsEach];exact List.mem_append_left _ hn)
 obtain ⟨z,hz1,hz2⟩:=hs enc w base vs' xs' q (fun j t' v' a b=>hok (j+1) t' v' (by simpa using a) (by simpa using b)) h2 fun n hn=>hw n (by simp only [DataW.weightsEach];exact List.mem_append_right _ hn)
 refine ⟨(y,z),by simp [hz1],fun j hj=>?_⟩
 cases j with
 | zero=>exact hy
 | succ j=>exact hz2 j (by simpa using hj)
theorem zKI {H:Type} {enc:TypeId×Value→H} (hl:laidOutB P=true) {W W':World} (hE:Ext W W'): ∀ {ts:List TypeId} {vs:List Value} {ds:List (DataW H)} {ps:List MemPlace},(∀ t∈ts,P.readableRec t=true∧t<P.types.size)→DataW.TrodAll enc P W 0 (fun _=>true) true ts vs ds ps→(∀ x∈ps,x.block<W.heap.size)→DataW.TrodAll enc P W' 0 (fun b=>decide (b<W.heap.size)) true ts vs ds ps
 | [],_,_,_,_,h,_=>by
  obtain ⟨rfl,rfl,rfl⟩:=trodAll_nil h
  rfl
 | t::ts,_,_,_,hr,h,hlt=>by
  obtain ⟨v,vs',x,xs',p,q,rfl,rfl,rfl,h1,h2⟩:=trodAll_cons h
  exact ⟨p,q,Below.trod hl (hr t (by simp)).1 (hr t (by simp)).2 h1 hE fun x hx=>hlt x (List.mem_append_left _ hx),zKI hl hE (fun t ht=>hr t (by simp [ht])) h2 fun x hx=>hlt x (List.mem_append_right _ hx),rfl⟩
theorem zaA {H:Type} {enc:TypeId×Value→H} {f:Func} {s:ChangeSpec} {W W':World} {args:Array Value} {ds gs:List (DataW H)} {before:List MemPlace} {tb:TypeId} (hl:laidOutB P=true) (hr: ∀ t∈f.params.toList,P.readableRec t=true∧t<P.types.size) (hE:Ext W W')
 (hW:DataW.Whole enc P f.params.toList s.vars false W args.toList ds gs before) (hv:s.vars= []) (hs:s.fn H (ds++gs)= { results:=[.lit (.bool true)],args:=ds }) (hrt:f.resultTypes= #[tb]) (htb:P.underlying tb=some .bool):
 s.post enc P f false true false false W args (.bool true) W':=by
 have hW':=hW
 have hlt:=hW.lt
 obtain ⟨p,q,hA,hV,rfl,hfz,hnd⟩:=hW
 rw [hv] at hV
 obtain ⟨rfl,rfl⟩:=trodVars_none hV
 have hargs:=zKI hl hE hr hA fun x hx=>hlt x (List.mem_append_left _ hx)
 refine ⟨ds,[],p++[],[],p,[],hW',?_,?_,?_,World.keptBut_mono (fun x hx=>⟨hx,.inr (.inl (by simpa using hx))⟩) (Below.frame hE (· ∈p++[])),fun h=>by cases h⟩
 ·rw [hs,hrt]
  exact trodAll_mk1 (shut_bool htb true)
 ·rw [hs];exact hargs
 ·rw [hv,hs];rfl
theorem zXr {H:Type} {enc:TypeId×Value→H} {Γ:Glo} {fid:Nat} {f:Func} {s:ChangeSpec} {W:World} {base:Nat} {args:Array Value} {ds gs:List (DataW H)} {before:List MemPlace} {tb:TypeId} {α:Type} {dv:α→List DV} (hl:laidOutB P=true) (hr: ∀ t∈f.params.toList,P.readableRec t=true∧t<P.types.size)
 (hread:zML P f.params.toList dv) (hES: ∀ (w:World) (y:α),(∀ j,zAU (fun _=>False) w ((dv y).getD j .any) [] (args.getD j undef))→ES P Γ fid (dv y) [] (.bool true) [] true)
 (hval: ∀ (j:Nat) t v,f.params[j]? =some t→args[j]? =some v→Value.okWide P W .any base t v) (hW:DataW.Whole enc P f.params.toList s.vars false W args.toList ds gs before) (hv:s.vars= []) (hs:s.fn H (ds++gs)= { results:=[.lit (.bool true)],args:=ds }) (hrt:f.resultTypes= #[tb]) (htb:P.underlying tb=some .bool)
 (hsz:(DataW.weightsEach P f.params.toList ds).all (· ≤reachBytes)=true) (hg:Γ.gi W):Calls P fid args W fun e W'=>∃ v,e= .returned v∧s.post enc P f false true false false W args v W':=by
 have hW':=hW
 obtain ⟨p,q,hA,hV,rfl,hfz,hnd⟩:=hW
 obtain ⟨y,h1,h2⟩:=hread enc W base args.toList ds p (fun j t v a b=>hval j t v (by simpa using a) (by simpa using b)) hA fun n hn=>by
  have:=List.all_eq_true.1 hsz n hn
  simpa using this
 have hlen:(dv y).length=args.size:=by simpa using h1
 have hrep: ∀ j,zAU (fun _=>False) W ((dv y).getD j .any) [] (args.getD j undef):=fun j=>by
  rcases Nat.lt_or_ge j args.size with hj | hj
  ·have:=h2 j (by simpa using hj)
   simpa [List.getD_eq_getElem?_getD,Array.getD_eq_getD_getElem?,hj] using this
  ·have:(dv y).getD j .any= .any:=by rw [List.getD_eq_getElem?_getD,List.getElem?_eq_none (by omega)];rfl
   rw [this];trivial
 refine ((hES W y hrep).2 (fun _=>False) [] W args (zGa (fun b hb=>hb.elim) hg) ⟨hlen,fun i hi=>?_⟩).mono ?_
 ·exact zAU.out _ (zA7 (fun b hb=>zL7.1 hb) []) (hrep i)
 ·rintro e W' ⟨v,rfl,G⟩
  obtain ⟨ρ',_,hvv,_⟩:=G.ex
  have hvv:v= .bool true:=hvv
  subst hvv
  exact ⟨_,rfl,zaA hl hr (G.ext rfl) hW' hv hs hrt htb⟩
end
end Go.Proofs.YtekkngkphejfcaaGreatDoor
namespace Go.Proofs.YtekkngkphejfcaaGreatDoor
open Go.ChangeShapes Go.WideShapes Go.ChangeAt Go.RowKit
theorem own:ownKnob Tryz.prog.godebug=none:=by kernel_rfl
theorem zab:laidOutB Tryz.prog=true:=by kernel_rfl
theorem zdF:0<Tryz.prog.bytesOf 3:=Nat.le_of_ble_eq_true (by kernel_rfl)
theorem rdI:Rd Tryz.prog 3 1 (fun n:Int=>[.int .i64 n]):=Rd.int Tryz.underlying3 (by kernel_rfl)
theorem zPN:Rd Tryz.prog 22 1 zAS:=Rd.ints Tryz.underlying22 (by kernel_rfl) zdF Tryz.underlying3 (by kernel_rfl)
theorem zcl:Rd Tryz.prog 23 1 (fun L:List (List Int)=>[.sl 1 L.length (zAz zAS L)]):=Rd.rows Tryz.underlying23 (by kernel_rfl) (Nat.le_of_ble_eq_true (by kernel_rfl)) Nat.zero_lt_one zPN
set_option maxRecDepth 100000 in
theorem zcn:Rd Tryz.prog 48 9 zAF:=by
 refine Rd.struct Tryz.underlying48 (by kernel_rfl)
  (zMB.cons rfl rdI<|zMB.cons rfl zPN<|zMB.cons rfl rdI<|zMB.cons rfl rdI<|zMB.cons rfl rdI<|zMB.cons rfl rdI<|zMB.cons rfl zPN<|zMB.cons rfl rdI<|zMB.cons rfl rdI<|zMB.nil rfl)
  (fun x:Int×List Int×Int×Int×Int×Int×List Int×Int×Int×Unit=>(⟨x.1,x.2.1,x.2.2.1,x.2.2.2.1,x.2.2.2.2.1,x.2.2.2.2.2.1,x.2.2.2.2.2.2.1,x.2.2.2.2.2.2.2.1,x.2.2.2.2.2.2.2.2.1⟩:zAC)) ?_ (fun _=>rfl)
 intro x;rfl
theorem zZj:Rd Tryz.prog 24 1 (fun L:List zAC=>[.sl 9 L.length (zAz zAF L)]):=Rd.rows Tryz.underlying24 (by kernel_rfl) (Nat.le_of_ble_eq_true (by kernel_rfl)) (by decide) zcn
set_option maxRecDepth 100000 in
theorem zcm:Rd Tryz.prog 26 5 zAE:=by
 refine Rd.struct Tryz.underlying26 (by kernel_rfl)
  (zMB.cons rfl rdI<|zMB.cons rfl rdI<|zMB.cons rfl zPN<|zMB.cons rfl zcl<|zMB.cons rfl zZj<|zMB.nil rfl)
  (fun x:Int×Int×List Int×List (List Int)×List zAC×Unit=>(⟨x.1,x.2.1,x.2.2.1,x.2.2.2.1,x.2.2.2.2.1⟩:zAB)) ?_ (fun _=>rfl)
 intro x;rfl
theorem zch:RdV Tryz.prog 26 (fun q:zAB=>.agg 5 (L1 (zAE q))):=RdV.agg Tryz.underlying26 zcm
theorem zds:RdV Tryz.prog 3 (fun n:Int=>.int .i64 n):=RdV.int Tryz.underlying3
theorem zci:RdV Tryz.prog 22 (fun l:List Int=>.ints l):=RdV.one Tryz.underlying22 zPN
theorem Fit.of {M:Nat→Prop} {w:World} {ρ:List zAJ} {q:zAB} {v:Value} (h:zAU M w (.agg 5 (L1 (zAE q))) ρ v):Fit q:=by
 obtain ⟨cs,_,_,hc⟩:=h
 have row: ∀ {α:Type} [Inhabited α] {m:Nat} {c:α→List DV} {L:List α} {u:Value},0<m→zAU M w (.sl m L.length (zAz c L)) ρ u→∀ x∈L,∀ j,j<m→∃ u,zAU M w ((c x).getD j .any) [] u:=by
  intro α _ m c L u hm ⟨a,cap,_,_,_,hh⟩ x hx j hj
  obtain ⟨i,hi,rfl⟩:=List.getElem_of_mem hx
  obtain ⟨b,o,u,_,_,_,hr⟩:=hh i j hi hj
  refine ⟨u,?_⟩
  have e:L.getD i default=L[i]:=by simp [hi]
  have hr:zAU M w ((c (L.getD i default)).getD j .any) [] u:=hr
  rw [e] at hr;exact hr
 refine ⟨?_,fun r hr=>?_,fun c hcm=>?_,fun c hcm=>?_⟩
 ·obtain ⟨u,_,h2⟩:=hc 2 (by decide)
  exact zLY h2
 ·obtain ⟨u,_,h3⟩:=hc 3 (by decide)
  obtain ⟨u,h⟩:=row (c:=zAS) (L:=q.nbrs) Nat.zero_lt_one h3 r hr 0 Nat.zero_lt_one
  exact zLY h
 ·obtain ⟨u,_,h4⟩:=hc 4 (by decide)
  obtain ⟨u,h⟩:=row (c:=zAF) (L:=q.cons) (by decide) h4 c hcm 1 (by decide)
  exact zLY h
 ·obtain ⟨u,_,h4⟩:=hc 4 (by decide)
  obtain ⟨u,h⟩:=row (c:=zAF) (L:=q.cons) (by decide) h4 c hcm 6 (by decide)
  exact zLY h
theorem zeL:Tryz.prog.globalNamed "math/bits.deBruijn64tab" =some 1:=by kernel_rfl
theorem zag:(Tryz.prog.globals[1]?).map (·.type)=some 145:=by kernel_rfl
abbrev zOE {H:Type}:List (String×DataW H):=[("math/bits.deBruijn32tab",Rows.laid_math_bits_deBruijn32tab),("math/bits.deBruijn64tab",Rows.laid_math_bits_deBruijn64tab)]
theorem zdr {W:World} (h:laidMetH Tryz.prog zOE W):Lib.TabIs Tryz.prog W "math/bits.deBruijn64tab" .u8 (Lib.deBruijn64tab.map Int.ofNat):=
 Lib.tabIs_of_head (rest:=[]) zeL zag Tryz.underlying145 Tryz.underlying5 (by kernel_rfl) (by kernel_rfl) (laidMet.tail (show laidMet Tryz.prog zOE W from h))
theorem zY9 {W:World} (h:laidMetH Tryz.prog zOE W):GG.gi W:=by
 have T:=zdr h
 have c: ∀ j,j<64→W.cell? ⟨1,j,none⟩=some (.int .u8 ((Lib.deBruijn64tab.map Int.ofNat).getD j 0)):=fun j hj=>T.cell zeL j (by rw [List.length_map];exact hj)
 refine ⟨fun j hj=>?_,?_⟩
 ·have hj:j<64:=hj
  rw [c j hj]
  have:(Lib.deBruijn64tab.map Int.ofNat).getD j 0=((Lib.deBruijn64tab.getD j 0:Nat):Int):=by
   have hl:j<Lib.deBruijn64tab.length:=hj
   simp [List.getD_eq_getElem?_getD,hl]
  rw [this]
 ·have:=World.block_lt_of_cell? W _ (c 0 (by decide))
  exact this
def zbC (l:List Nat) (o:Obj):Obj:=match o with
 | .cells _ t frozen=>.cells (l.map fun n=>Value.int .u8 (Int.ofNat n)).toArray t frozen
 | o=>o
noncomputable def laidWorld (os:Os):World:=
 { World.holding Tryz.prog os ⟨#[],#[],[]⟩ with heap:=((World.holding Tryz.prog os ⟨#[],#[],[]⟩).heap.modify 0 (zbC Lib.deBruijn32tab)).modify 1 (zbC Lib.deBruijn64tab) }
def zZ9:Value:=.agg #[.int .i64 0,.int .i64 0,.slice none 0 0,.slice none 0 0,.slice none 0 0]
end Go.Proofs.YtekkngkphejfcaaGreatDoor
