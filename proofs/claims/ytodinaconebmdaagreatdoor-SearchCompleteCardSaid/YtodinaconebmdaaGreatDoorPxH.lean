/- Part 8 of 8 of what the proofs of these laws stand on. -/
import Derived.Test.YtodinaconebmdaaGreatDoorPxG
set_option linter.all false
namespace Go.Proofs.YtodinaconebmdaaGreatDoor
open Go.RowKit
section
variable {q:AA}
def kj (R:DJ q)(a:Om q): ∀ (k j:Nat) (x:Int),j+k=q.cons.length -> 0<=x -> x<=562949953421312 -> ∃ b,Ev (λn=>Gf q n (.l2 x (j:Int))) b/\ (b=true -> q.cells<=16/\ q.symbols<=4)
 | 0,j,x,e,h0,c=>by
  refine ⟨decide (x<200)&&(decide (q.cells<=16)&&decide (q.symbols<=4)),Ev.one λn=>?_,λh=>?_⟩
  ·show OS n (Gf q n) q x (j:Int)=_
   unfold OS
   grind
  grind
 | k+1,j,x,e,h0,c=>by
  have hj:j<q.cons.length:=by omega
  have hb:LB=140737488355328:=rfl;have hc:=a.cons
  have v:q.cons.getD j default∈q.cons:=by
   grind
  have c1:=R.cells _ v;have c2:=R.runs _ v
  by_cases d:x<200
  ·obtain ⟨b,f,Z⟩:=kj R a k (j+1) (x+((((q.cons.getD j default).cells.length:Nat):Int)+(((q.cons.getD j default).runs.length:Nat):Int))) (by omega) (by omega) (by omega)
   by_cases g:(q.cons.getD j default).kind=5/\ 9<(q.cons.getD j default).cells.length
   ·refine ⟨false,Ev.one λn=>?_,λh=>by cases h⟩
    show OS n (Gf q n) q x (j:Int)=_
    unfold OS;rw [zEI (by omega),zFi,zEI d,zFi];simp only [zCl];rw [zEd (by grind [Ah]),show ((q.cons.getD j default).kind==5)=true from zGo.2 g.1,zFi,zEI (by omega),zFi]
   ·refine ⟨b,AV.ev (m:=Gf q) (AV.one λn=>?_) f,Z⟩
    show OS n (Gf q n) q x (j:Int)=_
    unfold OS;rw [zEI (by omega),zFi,zEI d,zFi];simp only [zCl];rw [zEd (by grind [Ah])];simp only [zEd (show AG ((j:Int)+1) from Ah.2 ⟨by omega,by omega⟩)]
    grind
  simp_all [Ev.one,OS,Gf,zEl]
def u0 (R:DJ q)(c:Om q): ∀ (k j:Nat) (x:Int),j+k=q.nbrs.length -> 0<=x -> x<=562949953421312 -> ∃ b,Ev (λn=>Gf q n (.l1 x (j:Int))) b/\ (b=true -> q.cells<=16/\ q.symbols<=4)
 | 0,j,x,e,h0,d=>by
  obtain ⟨b,a,Z⟩:=kj R c q.cons.length 0 x (by omega) h0 d;refine ⟨b,AV.ev (m:=Gf q) (AV.one λn=>?_) a,Z⟩
  simp_all [Ws,Gf]
 | k+1,j,x,e,h0,d=>by
  have hj:j<q.nbrs.length:=by omega
  have hb:LB=140737488355328:=rfl;have hc:=c.nbrs
  have v:q.nbrs.getD j []∈q.nbrs:=by
   grind
  have c1:=R.nbrs _ v
  by_cases f:x<200
  ·obtain ⟨b,a,Z⟩:=u0 R c k (j+1) (x+(((q.nbrs.getD j []).length:Nat):Int)) (by omega) (by omega) (by omega);refine ⟨b,AV.ev (m:=Gf q) (AV.one λn=>?_) a,Z⟩
   show Ws n (Gf q n) q x (j:Int)=_
   unfold Ws;rw [zEI (by omega),zFi,zEI f,zFi];simp only [zCl];rw [zEd (by grind [Ah]),show ((j+1:Nat):Int)=(j:Int)+1 by omega]
  ·obtain ⟨b,a,Z⟩:=kj R c q.cons.length 0 x (by omega) h0 d;refine ⟨b,AV.ev (m:=Gf q) (AV.one λn=>?_) a,Z⟩
   simp_all [Ws,Gf,zEl]
def zJ7 (R:DJ q)(a:Om q): ∃ b,Ev (λn=>b7 n q) b/\ (b=true -> q.cells<=16/\ q.symbols<=4):=by
 have hb:LB=140737488355328:=rfl;have c1:=R.values;have c2:=a.nbrs;have c3:=a.cons;obtain ⟨b,j,Z⟩:=u0 R a q.nbrs.length 0 ((q.values.length:Int)+(q.nbrs.length:Int)+(q.cons.length:Int)) (by omega) (by omega) (by omega);refine ⟨b,j.eq λn=>?_,Z⟩;unfold b7 u4;rw [zEd (by simp only [Ah];omega)];rfl
end
section
open Classical
variable {x:Int}
def zAH (h:Sm 16 x):Ev (λn=>YY n x) ((Bn x:Nat):Int):=by
 have K:IntKind.u64.wrap x=x:=by
  have h1:=h.1;have h2:x<65536:=h.2;rw [zMs];omega
 have key: ∀ (k i:Nat),i+k=64 -> Ev (λn=>Rb x n (.l1 (cnt (λs=>tb x s) i) (i:Int))) (cnt (λs=>tb x s) 64):=by
  intro k
  induction k with
  | zero=>
   simp_all [Ev.one,YU,Rb]
  | succ k V=>
   intro i e;have hb:=cd (p:=λs=>tb x s) (i:=i);have M:IntKind.u64.wrap (i:Int)=(i:Int):=by rw [zMs];omega
   refine AV.ev (AV.one λn=>?_) (V (i+1) (by omega))
   show YU n (Rb x n) x _ (i:Int)=_
   unfold YU;rw [zEI (by omega),zFi,M,K,zCl,wM,eP h (by decide) (by omega)];have a:IntKind.i64.wrap (if tb x i=true then 1 else 0)=if tb x i=true then 1 else 0:=by split <;> decide
   rw [a,Qh,show ((i+1:Nat):Int)=(i:Int)+1 by omega,zEd ⟨⟨by omega,by show (i:Int)<=((64:Nat):Int);omega⟩,Ah.2 (by split <;> omega),Ah.2 ⟨by omega,by omega⟩⟩]
 have Q:cnt (λs=>tb x s) 64=((Bn x:Nat):Int):=by
  unfold cnt Bn Bv
  have z:(List.range' 16 48).countP (λs=>tb x s)=0:=List.countP_eq_zero.2 λs b=>by
   rw [h.hi (zNh.1 b).1];decide
  rw [←zIX,zNo,show List.range' 0 64=List.range' 0 (16-0)++List.range' 16 48 from rfl,List.countP_append,z];rfl
 have:=key 64 0 (by omega);rw [Q] at this;exact this.eq λn=>rfl
def ub: ∀ (a b:Ξ),gp (a++b)=gp a*gp b
 | [],b=>(Nat.one_mul _).symm
 | x::a,b=>by
  show max (Bn x) 1*gp (a++b)=max (Bn x) 1*gp a*gp b
  rw [ub a b,zNQ]
variable {j:Nat}{α:Type}
def yZ {l:List α}{d:α}(hj:j<l.length):l.take (j+1)=l.take j++[l.getD j d]:=by
 simp_all
def TX {l:List α}{d:α}(hj:j<l.length):l.drop j=l.getD j d::l.drop (j+1):=by
 simp_all
def Fr (x:Int)(y:Ξ)(j:Nat):List Ξ:=(Bv x j).map λs:Nat=>y++[(s:Int)]
def Lg (x:Int)(A:List Ξ):List Ξ:=A.flatMap λy=>Fr x y 0
def Jb:Ξ -> List Ξ -> List Ξ
 | [],A=>A
 | x::p,A=>Jb p (Lg x A)
def u9 : ∀ A:List Ξ,(Lg x A).length=A.length*Bn x
 | []=>(Nat.zero_mul _).symm
 | y::A=>by
  show (Fr x y 0++Lg x A).length=_
  rw [zGi,u9 A,zIN,zMu,Nat.add_comm];unfold Fr Bn;rw [zGh]
def xC: ∀ (p:Ξ) (A:List Ξ) (g:Ξ),g∈Jb p A↔∃ y z,y∈A/\ g=y++z/\ z.length=p.length/\ ∀ j,j<p.length -> ∃ s:Nat,s∈Bv (p.getD j 0) 0/\ z.getD j 0=(s:Int)
 | [],A,g=>by
  constructor
  ·intro h;exact ⟨g,[],h,(zI3 g).symm,rfl,λj b=>absurd b (zGa j)⟩
  ·rintro ⟨y,z,h,rfl,a,_⟩;have:z= []:=zMr.1 a;subst this;rw [zI3];exact h
 | x::p,A,g=>by
  show g∈Jb p (Lg x A)↔_
  rw [xC p];constructor
  ·rintro ⟨y,z,h,rfl,a,b⟩;obtain ⟨y0,h0,c⟩:=List.mem_flatMap.1 h;obtain ⟨s,k,rfl⟩:=zIS.1 c
   grind
  ·rintro ⟨y,z,h,rfl,a,b⟩
   match z,a with
   | v::z,a=>
    obtain ⟨s,k,e⟩:=b 0 (by simp);have e:v=(s:Int):=e;subst e;refine ⟨y++[(s:Int)],z,List.mem_flatMap.2 ⟨y,h,zIS.2 ⟨s,k,rfl⟩⟩,by simp,by simpa using a,λj i=>b (j+1) (by simpa using i)⟩
def xB: ∀ (p:Ξ) (A:List Ξ),A.Nodup -> (Jb p A).Nodup
 | [],A,h=>h
 | x::p,A,h=>by
  refine xB p _ ?_;unfold Lg List.Nodup;rw [List.pairwise_flatMap];refine ⟨λy _=>?_,h.imp λD u q v a e=>?_⟩
  ·unfold Fr;rw [List.pairwise_map];exact eU.imp λD e=>D (Int.ofNat_inj.1 (by simpa using e))
  ·obtain ⟨s,_,rfl⟩:=zIS.1 q;obtain ⟨t,_,rfl⟩:=zIS.1 a;exact D (List.append_inj_left' e rfl)
section
variable {q:AA} {pos:Ξ}
def p5 (x:Int)(y:Ξ)(j:Int)(c:Int)(A:List Ξ)(r:Int)(o:List Ξ):FW:=if o= [] then .l5 x y j c A (A.length:Int) r else .l8 x o.length y j c A (A.length:Int) r o
def p9 (x:Int)(c:Int)(A:List Ξ)(r:Int)(o:List Ξ):FW:=if o= [] then .l9 x c A (A.length:Int) r else .l10 x o.length c A (A.length:Int) r o
def p2 (c:Int)(A:List Ξ):FW:=if A= [] then .l11 c else .l2 A.length c A
def p6 (A:List Ξ)(j:Int)(o:List Ξ):FW:=if o= [] then .l7 A (A.length:Int) j else .l6 o.length A (A.length:Int) j o
variable {A:List Ξ}{y:Ξ}
def X7 (N:q.symbols<=16){x:Int}(d:Sm q.symbols.toNat x)(hy:y.length<=300){c:Int}{r:Nat}(i:r<=1000000): ∀ (k j:Nat) (o:List Ξ),j+k=q.symbols.toNat -> o.length+k<=1000000 -> AV (Bu q pos) (p5 x y (j:Int) c A (r:Int) o) (p9 x c A ((r+1:Nat):Int) (o++Fr x y j))
 | 0,j,o,e,b=>by
  have w:Fr x y j= []:=by
   grind [Fr,pA]
  rw [w,zI3];refine AV.one λn=>?_
  unfold p5 p9
  by_cases h0:o= []
  ·rw [zEd h0,zEd h0]
   show PA n (Bu q pos n) q pos x y (j:Int) c A (A.length:Int) (r:Int)=_
   unfold PA;rw [zEl (by omega),zGK,zEd (Ah.2 ⟨by omega,by omega⟩)];rfl
  ·rw [zGW h0,zGW h0]
   show O9 n (Bu q pos n) q pos x o.length y (j:Int) c A (A.length:Int) (r:Int) o=_
   unfold O9;rw [zEl (by omega),zGK,zEd (Ah.2 ⟨by omega,by omega⟩)];rfl
 | k+1,j,o,e,b=>by
  have L:Ay=1000000000000:=rfl;have M:IntKind.u64.wrap (j:Int)=(j:Int):=by rw [zMs];omega
  have l:AG ((j:Int)+1):=Ah.2 ⟨by omega,by omega⟩;have Y:((j+1:Nat):Int)=(j:Int)+1:=by omega
  have z:Bv x j=if tb x j then j::Bv x (j+1) else Bv x (j+1):=eV (by omega)
  cases a:tb x j with
  | false=>
   have w:Fr x y j=Fr x y (j+1):=by unfold Fr;rw [z,a];rfl
   rw [w];refine (AV.one λn=>?_).trans (X7 N d hy i k (j+1) o (by omega) (by omega));unfold p5;rw [Y]
   by_cases h0:o= []
   ·rw [zEd h0,zEd h0]
    show PA n (Bu q pos n) q pos x y (j:Int) c A (A.length:Int) (r:Int)=_
    unfold PA;rw [zEI (by omega),zFi,M,zCl,zEd ⟨by omega,by show (j:Int)<=((64:Nat):Int);omega⟩,Uj d (by omega) (by omega),a,zGK,zEd l]
   ·rw [zGW h0,zGW h0]
    show O9 n (Bu q pos n) q pos x o.length y (j:Int) c A (A.length:Int) (r:Int) o=_
    unfold O9;rw [zEI (by omega),zFi,M,zCl,zEd ⟨by omega,by show (j:Int)<=((64:Nat):Int);omega⟩,Uj d (by omega) (by omega),a,zGK,zEd l]
  | true=>
   have w:o++Fr x y j=(o++[y++[(j:Int)]])++Fr x y (j+1):=by simp_all [Fr]
   rw [w];refine (AV.one λn=>?_).trans (X7 N d hy i k (j+1) (o++[y++[(j:Int)]]) (by omega) (by simp;omega));unfold p5;rw [Y,zGW (show ¬ (o++[y++[(j:Int)]]= []) by simp)]
   by_cases h0:o= []
   ·rw [zEd h0,h0]
    show PA n (Bu q pos n) q pos x y (j:Int) c A (A.length:Int) (r:Int)=_
    unfold PA;rw [zEI (by omega),zFi,M,zCl,zEd ⟨by omega,by show (j:Int)<=((64:Nat):Int);omega⟩,Uj d (by omega) (by omega),a,zFi,zEd ⟨⟨trivial,⟨rfl,rfl⟩,by simp;omega⟩,by simp,⟨⟨rfl,rfl⟩,⟨rfl,by simp⟩,by simp;omega⟩,l⟩];rfl
   ·rw [zGW h0]
    show O9 n (Bu q pos n) q pos x o.length y (j:Int) c A (A.length:Int) (r:Int) o=_
    unfold O9;rw [zEI (by omega),zFi,M,zCl,zEd ⟨by omega,by show (j:Int)<=((64:Nat):Int);omega⟩,Uj d (by omega) (by omega),a,zFi,zEd ⟨⟨trivial,⟨rfl,rfl⟩,by simp;omega⟩,by simp,⟨⟨rfl,rfl⟩,⟨rfl,by simp⟩,by simp;omega⟩,rfl,by simp;omega,l⟩,zGi];rfl
def vA {x:Int}{j:Nat}:(Fr x y j).length<=16:=by
 grind [Fr,Bv]
variable {c:Nat}
def py (N:q.symbols<=16){x:Int}(a:Sm q.symbols.toNat x)(l:c<=1000000)(C: ∀ y∈A,y.length<=300)(f:A.length<=10000): ∀ (k r:Nat) (o:List Ξ),r+k=A.length -> o.length<=16*r -> AV (Bu q pos) (p9 x (c:Int) A (r:Int) o) (p2 ((c+1:Nat):Int) (o++(A.drop r).flatMap λy=>Fr x y 0))
 | 0,r,o,e,g=>by
  have e:r=A.length:=by omega
  subst e;rw [zNI,List.flatMap_nil,zI3];refine AV.one λn=>?_
  unfold p9 p2
  by_cases h0:o= []
  ·rw [zEd h0,zEd h0]
   show YK n (Bu q pos n) q pos x (c:Int) A (A.length:Int) (A.length:Int)=_
   unfold YK;rw [zEl (by omega),zGK,zEd (Ah.2 ⟨by omega,by omega⟩)];rfl
  ·rw [zGW h0,zGW h0]
   show YN n (Bu q pos n) q pos x o.length (c:Int) A (A.length:Int) (A.length:Int) o=_
   unfold YN;rw [zEl (by omega),zGK,zEd (Ah.2 ⟨by omega,by omega⟩)];rfl
 | k+1,r,o,e,g=>by
  have i:r<A.length:=by omega
  have v:A.getD r []∈A:=by
   grind
  have hy:=C _ v;have hl:=vA (x:=x) (y:=A.getD r []) (j:=0);rw [TX (d:=[]) i,zNa,←zNf];refine ((AV.one (b:=p5 x (A.getD r []) ((0:Nat):Int) (c:Int) A (r:Int) o) λn=>?_).trans (X7 N a hy (by omega) q.symbols.toNat 0 o (by omega) (by omega))).trans (py N a l C f k (r+1) (o++Fr x (A.getD r []) 0) (by omega) (by rw [zGi];omega));unfold p9 p5
  by_cases h0:o= []
  ·simp_all [YK,Bu]
  simp_all [YN,Bu]
def zLV (g:A5 q pos)(l:c<pos.length)(C: ∀ y∈A,y.length<=300)(k:A.length<=10000):AV (Bu q pos) (p2 (c:Int) A) (p2 ((c+1:Nat):Int) (Lg (pos.getD c 0) A)):=by
 have EB:=g.len256;have N:q.symbols<=16:=by have:=(DP g.valid).2.1;omega
 by_cases h0:A= []
 ·subst h0;refine (AV.one (b:=.l12 (pos.getD c 0) (c:Int)) λn=>?_).trans (AV.one λn=>?_)
  ·show Ue n (Bu q pos n) q pos (c:Int)=_
   simp_all [Ue]
  ·show eK n (Bu q pos n) q pos (pos.getD c 0) (c:Int)=_
   unfold eK;rw [zEd (Ah.2 ⟨by omega,by omega⟩)];rfl
 ·have m:0<A.length:=by
   grind
  have v:A.getD 0 []∈A:=by
   grind
  have a:=g.sm c l;have S:=vA (x:=pos.getD c 0) (y:=A.getD 0 []) (j:=0)
  have e:Lg (pos.getD c 0) A=([]++Fr (pos.getD c 0) (A.getD 0 []) 0)++(A.drop 1).flatMap λy=>Fr (pos.getD c 0) y 0:=by
   unfold Lg;have:=TX (d:=([]:Ξ)) m
   grind
  rw [e];refine (((AV.one (b:=.l3 (pos.getD c 0) (c:Int) A.length (A.length:Int) A) λn=>?_).trans (AV.one (b:=p5 (pos.getD c 0) (A.getD 0 []) ((0:Nat):Int) (c:Int) A ((0:Nat):Int) []) λn=>?_)).trans (X7 N a (C _ v) (by omega) q.symbols.toNat 0 [] (by omega) (by simp;omega))).trans (py N a (by omega) C k (A.length-1) 1 _ (by omega) (by simpa using S))
  ·simp_all [p2,eJ,Bu]
  ·show eH n (Bu q pos n) q pos (pos.getD c 0) (c:Int) A.length (A.length:Int) A=_
   unfold eH;rw [zEI (by omega),zFi,zEd rfl,zEd ⟨zGv _,by omega⟩];rfl
def vu (g:A5 q pos): ∀ (k c:Nat) (A:List Ξ),c+k=pos.length -> (∀ y∈A,y.length=c) -> A.length*gp (pos.drop c)<=1024 -> AV (Bu q pos) (p2 (c:Int) A) (p2 (pos.length:Int) (Jb (pos.drop c) A))/\ (Jb (pos.drop c) A).length<=1024
 | 0,c,A,e,_,C=>by
  have e:c=pos.length:=by omega
  subst e;rw [zNI] at C ⊢;exact ⟨AV.refl,by show A.length<=1024;simpa [gp] using C⟩
 | k+1,c,A,e,hy,C=>by
  have l:c<pos.length:=by omega
  have EB:=g.len256;rw [TX (d:=0) l] at C ⊢;have C:A.length*(max (Bn (pos.getD c 0)) 1*gp (pos.drop (c+1)))<=1024:=C;have j:=TC (pos.drop (c+1));have hl:A.length<=1024:=zGU (Nat.le_mul_of_pos_right _ (Nat.mul_pos (by omega) j)) C
  have b:(Lg (pos.getD c 0) A).length*gp (pos.drop (c+1))<=1024:=by
   rw [u9,zNQ];exact zGU (Nat.mul_le_mul_left _ (zJB _ (by omega))) C
  obtain ⟨Y,L⟩:=vu g k (c+1) (Lg (pos.getD c 0) A) (by omega) (λy h=>by
   obtain ⟨v,h0,a⟩:=List.mem_flatMap.1 h;obtain ⟨s,_,rfl⟩:=zIS.1 a;rw [zGi,hy v h0];rfl) b
  exact ⟨(zLV g l (λy h=>by rw [hy y h];omega) (by omega)).trans Y,L⟩
def zDw (hA:A.length<=1024){j:Nat}(hj:j<A.length){o:List Ξ}(ho:o.length<=j){b:Bool}(c:Ev (λn=>Ko n q (A.getD j [])) (b,0)):AV (Bu q pos) (p6 A (j:Int) o) (p6 A ((j+1:Nat):Int) (if b=true then o++[A.getD j []] else o)):=by
 have L:Ay=1000000000000:=rfl;obtain ⟨N,R⟩:=c;have R: ∀ n,N<=n -> Ko n q (A.getD j [])=some (b,0):=R;have r1:AG ((j:Int)+1):=Ah.2 ⟨by omega,by omega⟩;refine AV.oneN N λn u=>?_
 unfold p6;rw [show ((j+1:Nat):Int)=(j:Int)+1 by omega]
 by_cases h0:o= []
 ·rw [zEd h0,h0]
  show YL n (Bu q pos n) q pos A (A.length:Int) (j:Int)=_
  unfold YL
  grind
 ·rw [zGW h0]
  show YM n (Bu q pos n) q pos o.length A (A.length:Int) (j:Int) o=_
  unfold YM;rw [zEI (by omega),zFi,zEd ⟨by omega,by omega⟩,zCl,R n u,zEf]
  grind
def gD (C:A.length<=1024)(h: ∀ g∈A,∃ b,Ev (λn=>Ko n q g) (b,0)/\ (b=true↔Kd q g)): ∀ (k j:Nat) (o:List Ξ),j+k=A.length -> o.length<=j -> Ev (λn=>Bu q pos n (p6 A (j:Int) o)) (o++(A.drop j).filter λg=>decide (Kd q g),true)
 | 0,j,o,e,x=>by
  have e:j=A.length:=by omega
  subst e;rw [zNI,List.filter_nil,zI3];refine Ev.one λn=>?_
  unfold p6
  by_cases h0:o= []
  ·simp_all [YL,Bu]
  simp_all [YM,Bu]
 | k+1,j,o,e,x=>by
  have a:j<A.length:=by omega
  have v:A.getD j []∈A:=by
   grind
  obtain ⟨b,c,b2⟩:=h _ v;refine AV.ev (zDw C a x c) ?_;have V:=gD C h k (j+1) (if b=true then o++[A.getD j []] else o) (by omega) (by cases b <;> simp <;> omega)
  have z:o++(A.drop j).filter (λg=>decide (Kd q g))=(if b=true then o++[A.getD j []] else o)++(A.drop (j+1)).filter λg=>decide (Kd q g):=by
   rw [TX (d:=[]) a,zMq]
   grind
  rw [z];exact V
def dK (q:AA)(pos:Ξ)(r:List Ξ×Bool):Prop:=r.2=true -> A5 q pos/\ gp pos<=1024/\ r.1.Nodup/\ r.1.length<=1024/\ ∀ g,g∈r.1↔MG q g/\ WI g pos
def uf (a:A5 q pos){g:Ξ}:g∈Jb pos [[]]↔Gd q g/\ WI g pos:=by
 have Aj:=a.len;rw [xC];constructor
 ·rintro ⟨y,z,hy,rfl,b,c⟩;have hy:y= []:=zGu.1 hy;subst hy;rw [zIs];refine ⟨⟨by omega,λj h=>?_⟩,b,λj h=>?_⟩
  ·obtain ⟨s,k,e⟩:=c j (by omega);have:=Ya a (by omega) s k;rw [e];omega
  grind [Hd]
 ·rintro ⟨G,t⟩;refine ⟨[],g,zGu.2 rfl,rfl,t.1,λj h=>?_⟩;have h1:=t.2 j (by rw [t.1];exact h)
  grind [Hd]
def zCs (a:A5 q pos)(k:DJ q)(l:q.cons.length<=LB)(j:gp pos<=1024): ∃ r,Ev (λn=>Bu q pos n (.l2 1 0 [[]])) r/\ dK q pos r:=by
 obtain ⟨o,s⟩:=vu a pos.length 0 [[]] (by omega) (λy h=>by rw [zGu.1 h];rfl) (by simpa using j);rw [zJb] at o s;have c: ∀ g∈Jb pos [[]],∃ b,Ev (λn=>Ko n q g) (b,0)/\ (b=true↔Kd q g):=λg h=>zT k a.valid ((uf a).1 h).1 l
 refine ⟨((Jb pos [[]]).filter (λg=>decide (Kd q g)),true),AV.ev (m:=Bu q pos) o ?_,λ_=>⟨a,j,zNW zNO (xB pos [[]] (by simp)),zGU (List.length_filter_le _ _) s,λg=>?_⟩⟩
 ·by_cases h0:Jb pos [[]]= []
  ·rw [h0];refine AV.ev (m:=Bu q pos) (AV.one (b:=.l13) λn=>?_) (Ev.one λn=>?_)
   ·show Ue n (Bu q pos n) q pos (pos.length:Int)=_
    simp_all [Ue]
   ·rfl
  ·have p:0<(Jb pos [[]]).length:=by
    grind
   generalize hA:Jb pos [[]]=A at*
   have v:A.getD 0 []∈A:=by
    grind
   have:=gD (pos:=pos) s c A.length 0 [] (by omega) (zGd _);rw [zJb,zIs] at this;obtain ⟨b,t,b2⟩:=c _ v;have P:=gD (pos:=pos) s c (A.length-1) 1 (if b=true then []++[A.getD 0 []] else []) (by omega) (by split <;> simp)
   have z:A.filter (λg=>decide (Kd q g))=(if b=true then []++[A.getD 0 []] else [])++(A.drop 1).filter λg=>decide (Kd q g):=by
    have hd:=TX (d:=([]:Ξ)) p
    grind
   rw [z];obtain ⟨N,R⟩:=t;have R: ∀ n,N<=n -> Ko n q (A.getD 0 [])=some (b,0):=R;refine AV.ev (m:=Bu q pos) ((AV.one (b:=.l4 A.length (A.length:Int) A) λn=>?_).trans (AV.oneN N λn u=>?_)) P
   ·simp_all [p2,eJ,Bu]
   ·show eG n (Bu q pos n) q pos A.length (A.length:Int) A=_
    unfold eG;rw [zEI (by omega),zFi,zEd rfl,zEd ⟨zGv _,by omega⟩,R n u,zEf];cases b <;> rfl
 ·rw [zJJ,uf a];constructor
  ·rintro ⟨⟨e,f⟩,i⟩;exact ⟨⟨e,zIe i⟩,f⟩
  ·rintro ⟨⟨e,i⟩,f⟩
   grind
def zg (R:DJ q)(o:Om q)(t:pos.length<=LB): ∃ r,Ev (λn=>eM n q pos) r/\ dK q pos r:=by
 obtain ⟨b,c,_⟩:=zJ7 R o;cases b with
 | false=>exact ⟨([],false),Ev.bind c (Ev.now λn=>rfl),λh=>by cases h⟩
 | true=>
  have f:Ev (λn=>U5 n q pos) (Dl q pos):=⟨EG q+pos.length+1,λn u=>zCF R (by omega) t (by omega)⟩
  by_cases h0:Dl q pos=0
  ·have g:=A5.of R h0;have EB:=g.len256
   have key: ∀ (k j:Nat),j+k=pos.length -> gp (pos.take j)<=1024 -> ∃ r,Ev (λn=>Bu q pos n (.l1 ((gp (pos.take j):Nat):Int) (j:Int))) r/\ dK q pos r:=by
    intro k
    induction k with
    | zero=>
     intro j e a;have e:j=pos.length:=by omega
     subst e;rw [zNn] at a ⊢;obtain ⟨r,l,z⟩:=zCs g R o.cons a;refine ⟨r,AV.ev (m:=Bu q pos) (AV.one λn=>?_) l,z⟩
     simp_all [YO,Bu]
    | succ k V=>
     intro j e a;have p:j<pos.length:=by omega
     obtain ⟨N,i⟩:=zAH (g.sm16 j p);have i: ∀ n,N<=n -> YY n (pos.getD j 0)=some ((Bn (pos.getD j 0):Nat):Int):=i;have Wc:Bn (pos.getD j 0)<=16:=eW
     have s:gp (pos.take (j+1))=gp (pos.take j)*max (Bn (pos.getD j 0)) 1:=by
      rw [yZ (d:=0) p,ub]
      show _*(max (Bn (pos.getD j 0)) 1*1)=_
      rw [zIb]
     have em:(if (1:Int)>((Bn (pos.getD j 0):Nat):Int) then 1 else ((Bn (pos.getD j 0):Nat):Int))=((max (Bn (pos.getD j 0)) 1:Nat):Int):=by split <;> omega
     have v:((gp (pos.take j):Nat):Int)*((max (Bn (pos.getD j 0)) 1:Nat):Int)=((gp (pos.take (j+1)):Nat):Int):=by rw [s,Int.natCast_mul]
     have Bg:gp (pos.take (j+1))<=1024*16:=by rw [s];exact zNb a (by omega)
     have step: ∀ n,N<=n -> Bu q pos (n+1) (.l1 ((gp (pos.take j):Nat):Int) (j:Int))=bif decide (((gp (pos.take (j+1)):Nat):Int)>1024) then some ([],false) else Bu q pos n (.l1 ((gp (pos.take (j+1)):Nat):Int) ((j+1:Nat):Int)):=λn u=>by
      show YO n (Bu q pos n) q pos _ (j:Int)=_
      unfold YO;rw [zEI (by omega),zFi,zEd ⟨by omega,by omega⟩,zCl,i n u,zEf,em,v,zEd (Ah.2 ⟨by omega,by omega⟩),zEd (Ah.2 ⟨by omega,by omega⟩),show ((j+1:Nat):Int)=(j:Int)+1 by omega]
     by_cases h:((gp (pos.take (j+1)):Nat):Int)>1024
     ·exact ⟨([],false),Ev.oneN N λn u=>by grind,λh=>by cases h⟩
     ·obtain ⟨r,l,z⟩:=V (j+1) (by omega) (by omega);exact ⟨r,AV.ev (m:=Bu q pos) (AV.oneN N λn u=>by grind) l,z⟩
   obtain ⟨r,l,z⟩:=key pos.length 0 (by omega) (by show 1<=1024;decide);rw [h0] at f;exact ⟨r,Ev.bind c (Ev.bind f (l.eq λn=>rfl)),z⟩
  ·refine ⟨([],false),Ev.bind c (Ev.bind f (Ev.now λn=>?_)),λh=>by cases h⟩
   grind
end
end
def pK {a b:Ξ}{n:Nat}(hl:a.length<=LB)(u:a.length<n):same n a b=some (decide (a=b)):=by
 have hb:LB<=9223372036854775806:=by decide
 unfold same pJ
 by_cases M:a.length=b.length
 ·have e:((a.length:Int) != (b.length:Int))=false:=by rw [M];simp
  rw [e,zGK]
  have key: ∀ (k i n:Nat),i+k=a.length -> k+1<=n -> Rg a b n (.l1 (i:Int))=some (decide (a.drop i=b.drop i)):=by
   intro k
   induction k with
   | zero=>
    intro i n e u;obtain ⟨n,rfl⟩: ∃ k,n=k+1:=⟨n-1,by omega⟩
    simp_all [Yi,Rg]
   | succ k V=>
    intro i n e u;obtain ⟨n,rfl⟩: ∃ k,n=k+1:=⟨n-1,by omega⟩;have hi:i<a.length:=by omega
    have G:i<b.length:=by omega
    have d: ∀ {l:Ξ},i<l.length -> l.drop i=l.getD i 0::l.drop (i+1):=λ{l} h=>by
     simp_all
    have:=V (i+1) n (by omega) (by omega)
    show Yi n (Rg a b n) a b (i:Int)=_
    unfold Yi;rw [zEI (by omega),zFi,zEd ⟨⟨by omega,by omega⟩,by omega,by omega⟩,zCl,zEd (Ah.2 ⟨by omega,by omega⟩),d hi,d G]
    by_cases h:a.getD i 0=b.getD i 0
    ·have:(a.getD i 0 != b.getD i 0)=false:=by rw [h];simp
     rw [this,zGK];refine Eq.trans (by assumption) ?_;rw [h];simp
    ·have:(a.getD i 0 != b.getD i 0)=true:=by simpa using h
     rw [this,zFi,zEl λe=>h (List.cons.inj e).1]
  grind
 ·have e:((a.length:Int) != (b.length:Int))=true:=by simp;omega
  rw [e,zFi,zEl λh=>M (by rw [h])]

def zAR:Ev Ut true:=⟨300,λn hn=>by
 obtain ⟨k,rfl⟩: ∃ k,n=k+300:=⟨n-300,by omega⟩
 show Ut (k+300)=some true
 kernel_rfl⟩
section
variable {q:AA} {p:Ξ}
def IA.len (g:A5 q p){x:Ξ}(h:IA q 4 p x):x.length<=256:=(h.posn g).1.len256.2
variable {l:List Bc}
def Sr.short {m:Option (Nat×Θ)}(h:Sr q m p l):A5 q p -> (∀ c ss,m=some (c,ss) -> c<p.length/\ ∀ s∈ss,s<q.symbols.toNat) -> ∀ y∈l,y.2.length<=256:=by
 have d: ∀ {o:Ξ} {y:Bc},y∈o.map PM -> y.2.length<=256:=λh=>by
  obtain ⟨i,_,rfl⟩:=zIS.1 h;exact zIR _
 induction h with
 | dead _ _ _=>
  intro g _ y hy;rcases zIQ.1 hy with hy | hy
  ·exact d hy
  ·rw [zGu.1 hy];exact zIR _
 | done _ f _ A=>
  intro g _ y hy;rcases zIQ.1 hy with hy | hy
  ·exact d hy
  ·rw [zGu.1 hy]
   show List.length _<=256
   rw [Ug A];exact f.len g
 | @split p x o c l h1 f h3 A h5 j h7 _ V=>
  intro g _ y hy;have n:=(f.posn g).1;rcases zIQ.1 hy with hy | hy
  ·exact d hy
  ·rcases zIn.1 hy with rfl | hy
   ·exact zIR _
   ·refine V n (λU ss e=>?_) y hy;cases e;refine ⟨j,λs k=>zGk λz=>?_⟩;have:=(Hd.1 k).2;rw [(n.sm c j).hi z] at this;cases this
 | nil=>intro _ _ y hy;cases hy
 | @cons x c s ss a b _ _ r t=>
  intro g u y hy;obtain ⟨w,v⟩:=u c (s::ss) rfl;rcases zIQ.1 hy with hy | hy
  ·exact r (g.fx w (v s zIV)) (λ_ _ e=>by cases e) y hy
  ·exact t g (λU oN e=>by cases e;exact ⟨w,λs k=>v s (zIG _ k)⟩) y hy
def Sr.ne (h:Sr q none p l):l≠[]:=by
 cases h <;> simp
end
section
variable {q:AA} {pos:Ξ}
structure Xg (q:AA)(pos:Ξ)(D:List Ξ):Prop where
 nd:D.Nodup
 mem: ∀ g,g∈D↔MG q g/\ WI g pos
variable {D:List Ξ}
def Xg.perm {E:List Ξ}(h:Xg q pos D)(h':Xg q pos E):D.length=E.length:=
 ((List.perm_ext_iff_of_nodup h.nd h'.nd).2 λg=>(h.mem g).trans (h'.mem g).symm).length_eq
def zH (g:A5 q pos)(hg:gp pos<=1024): ∃ l,Ev (λn=>J4 n q pos) l/\ l≠[]/\ l.length<=3072/\ Xg q pos (Dr l)/\ ∀ y∈l,y.2.length<=256:=by
 obtain ⟨l,O,F⟩:=zES g;have hz:=(O.size g).1 rfl;obtain ⟨a,E⟩:=(O.sols g).1 rfl;exact ⟨l,F,O.ne,by omega,⟨a,E⟩,O.short g (λ_ _ e=>by cases e)⟩
variable {k:Nat}{l:List Bc}
def rV (hk:0<k)(hl:l.length<=3072): ∃ R:HR,ME (k:Int) l 60000=some R/\ R.1=(Dr l).take k/\ R.2.2=decide (k<=(Dr l).length)/\ (l≠[] -> 0<R.2.1.length):=by
 obtain ⟨a,b,h⟩:=iy (k:=k) l [] [] hk;refine ⟨Fa (k:Int) l [] [],?_,by simpa using a,by simpa using b,λD=>(ap l [] []).2 D⟩;unfold ME;rw [zEd (by simp at h;omega)]
def zEw (g:A5 q pos)(h:Ev (λn=>J4 n q pos) l)(m:l.length<=3072)(hk:0<k)(hk2:k<=65536):Ev (λn=>J5 n q pos (k:Int) 60000) (((min k (Dr l).length:Nat):Int),0):=by
 obtain ⟨R,e,a,_⟩:=rV hk m;have:=zEt (most:=(k:Int)) g h ⟨by omega,by omega⟩ (f:=60000) (by decide);rw [e] at this
 show Ev (λn=>J5 n q pos (k:Int) ((60000:Nat):Int)) _
 rw [show min k (Dr l).length=R.1.length by rw [a,List.length_take]];exact this
def zf (hp:A5 q pos)(h:Xg q pos D){r:List Ξ×Bool}(i:dK q pos r)(b:r.2=true):D.length<=1024/\ D.length=r.1.length:=by
 obtain ⟨_,_,l,r2,m⟩:=i b;have:=h.perm ⟨l,m⟩;omega
end
section
variable {q:AA} {pos:Ξ}
def zGN {l:List Ξ}{g:Ξ}(hl:l.length<=1024)(b: ∀ x∈l,x.length<=256)(v:g∈l):Ev (λn=>am n l g) true:=by
 have key: ∀ (k j:Nat),j+k=l.length -> g∈l.drop j -> Ev (λn=>Nu l g n (.l1 (j:Int))) true:=by
  intro k
  induction k with
  | zero=>
   intro j e h;rw [zJD (by omega)] at h;cases h
  | succ k V=>
   intro j e h;have a:j<l.length:=by omega
   have E:l.getD j []∈l:=by
    rw [zGR,zGc a];exact zKJ a
   have c:=b _ E;have f: ∀ n,256<=n -> same (n+1) (l.getD j []) g=some (decide (l.getD j []=g)):=λn u=>pK (zGU c (by decide)) (by omega)
   have step: ∀ n,257<=n -> Nu l g (n+1) (.l1 (j:Int))=bif decide (l.getD j []=g) then some true else Nu l g n (.l1 ((j+1:Nat):Int)):=λn u=>by
    show iY n (Nu l g n) l g (j:Int)=_
    obtain ⟨m,rfl⟩: ∃ m,n=m+1:=⟨n-1,by omega⟩;unfold iY;rw [zEI (by omega),zFi,zEd ⟨by omega,by omega⟩,zCl,f m (by omega),zEf,zEd (Ah.2 ⟨by omega,by omega⟩),show ((j+1:Nat):Int)=(j:Int)+1 by omega]
   by_cases I:l.getD j []=g
   ·exact Ev.oneN 257 λn u=>by rw [step n u,zEI I,zFi]
   ·rw [TX (d:=[]) a] at h;rcases zIn.1 h with h | h
    ·exact absurd h.symm I
    ·exact AV.ev (m:=Nu l g) (AV.oneN 257 λn u=>by rw [step n u,zEl I,zGK]) (V (j+1) (by omega) h)
 exact (key l.length 0 (by omega) (by simpa using v)).eq λn=>rfl
def zFR (q:AA)(pos:Ξ)(most:Int)(K:DJ q)(o:Om q)(L:pos.length<=LB)(hc:0<=most/\ most<256):Ev (λn=>sU n q pos most) true:=by
 obtain ⟨r,M,t⟩:=zg K o L;obtain ⟨W,b⟩:=r;refine Ev.bind zAR (Ev.bind M ?_);cases b with
 | false=>exact Ev.now λn=>rfl
 | true=>
  obtain ⟨c,P,w1,p,C⟩:=t rfl;have p:W.length<=1024:=p;have C: ∀ g,g∈W↔MG q g/\ WI g pos:=C;have EB:=c.len256;obtain ⟨l,O,Q,y,J,l5⟩:=zH c P;have F:(Dr l).length=W.length:=(zf c J t rfl).2
  have A: ∀ x∈W,x.length<=256:=λx d=>by
   have:=((C x).1 d).2.1;omega
  obtain ⟨R,w,z,S,Z⟩:=rV (l:=l) (k:=2) (by decide) y
  have G:Ev (λn=>Lf n q pos 60000) (R.1,if R.2.2 then [] else R.2.1,0):=by
   have:=zJv c O (f:=60000) (by decide);have w:ME 2 l 60000=some R:=w;rw [w] at this;exact this
  obtain ⟨T,B⟩: ∃ T,T=if R.2.2 then [] else R.2.1:=⟨_,rfl⟩
  rw [←B] at G
  have U:decide ((T.length:Int)>0)=decide ((W.length:Int)<2):=by
   rw [zNL,B,S]
   by_cases h:2<=(Dr l).length
   ·rw [zEI h,zEd rfl];simp;omega
   ·rw [zEl h,zGW (by decide)];have:=Z Q;omega
  have V:R.1.length=min 2 W.length:=by rw [z,List.length_take,F]
  have H: ∀ x∈R.1,x∈W:=λx d=>by
   rw [z] at d;exact (C x).2 ((J.mem x).1 (List.mem_of_mem_take d))
  have s:R.1.Nodup:=by rw [z];exact zNW (List.take_sublist _ _) J.nd
  have X:1+IntKind.i64.wrap most=((1+most.toNat:Nat):Int):=by rw [zNH];omega
  have D:=zEw c O y (k:=1+most.toNat) (by omega) (by omega);rw [F] at D
  have Y:Ev (λn=>if AG ((1+most.toNat:Nat):Int) then (J5 n q pos ((1+most.toNat:Nat):Int) 60000).bind λi=>bif (i.2==0) then some (i.1==(if (W.length:Int)<((1+most.toNat:Nat):Int) then (W.length:Int) else ((1+most.toNat:Nat):Int))) else some false else none) true:=by
   refine Ev.eq (Ev.bind D (b:=λn i=>bif (i.2==0) then some (i.1==(if (W.length:Int)<((1+most.toNat:Nat):Int) then (W.length:Int) else ((1+most.toNat:Nat):Int))) else some false) (Ev.now λn=>?_)) λn=>zEd (Ah.2 ⟨by omega,by omega⟩)
   show some (_==_)=some true
   congr 1
   rw [zGo];split <;> omega
  have key: ∀ (k j:Nat),j+k=R.1.length -> Ev (λn=>Pm q pos most n (.l1 W R.1 R.1 (R.1.length:Int) (j:Int))) true:=by
   intro k
   induction k with
   | zero=>
    intro j e;have e:j=R.1.length:=by omega
    subst e;obtain ⟨N,a⟩:=Y;refine Ev.oneN (max N 300) λn E=>?_
    show Vv n (Pm q pos most n) q pos most W R.1 R.1 (R.1.length:Int) (R.1.length:Int)=_
    unfold Vv;rw [zEl (by omega),zGK,X]
    by_cases o:R.1.length=2
    ·rw [show ((R.1.length:Int)==2)=true from zGo.2 (by omega),zFi,zEd ⟨⟨by decide,by omega⟩,by decide,by omega⟩]
     have d:=A _ (H (R.1.getD 0 []) (by
      rw [zGR,zGc (by omega)];exact zKJ _))
     have AY:R.1.getD 0 []≠R.1.getD 1 []:=by
      match hR:R.1,o with
      | [u,v],_=>
       rw [hR] at s;simp at s;simpa using s
     rw [pK (zGU d (by decide)) (by omega),zEf,zEl AY,zGK];exact a n (by omega)
    ·rw [show ((R.1.length:Int)==2)=false from zIC.2 (by omega),zGK];exact a n (by omega)
   | succ k ih=>
    intro j e;have I:j<R.1.length:=by omega
    have CS:R.1.getD j []∈R.1:=by
     rw [zGR,zGc I];exact zKJ I
    obtain ⟨N,a⟩:=zGN p A (H _ CS);have a: ∀ n,N<=n -> am n W (R.1.getD j [])=some true:=a;refine AV.ev (m:=Pm q pos most) (AV.oneN N λn E=>?_) (ih (j+1) (by omega))
    show Vv n (Pm q pos most n) q pos most W R.1 R.1 (R.1.length:Int) (j:Int)=_
    unfold Vv;rw [zEI (by omega),zFi,zEd ⟨by omega,by omega⟩,zCl,a n E,zEf,zIF,zGK,zEd (Ah.2 ⟨by omega,by omega⟩),show ((j+1:Nat):Int)=(j:Int)+1 by omega]
  refine Ev.bind G (Ev.eq (key R.1.length 0 (by omega)) λn=>?_)
  show (bif ((0:Int) != 0) then some false else bif ((R.1.length:Int) != (if 2<(W.length:Int) then 2 else (W.length:Int))) then some false else bif (!((decide ((T.length:Int)>0))==(decide ((W.length:Int)<2)))) then some false else _)=_
  rw [show ((R.1.length:Int) != (if 2<(W.length:Int) then 2 else (W.length:Int)))=false by rw [V];simp only [bne_eq_false_iff_eq];split <;> omega,U,show (decide ((W.length:Int)<2)==decide ((W.length:Int)<2))=true from zNk _];rfl
end
end Go.Proofs.YtodinaconebmdaaGreatDoor
