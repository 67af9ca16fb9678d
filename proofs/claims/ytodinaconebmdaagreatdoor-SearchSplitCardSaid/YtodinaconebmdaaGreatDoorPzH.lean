/- Part 8 of 8 of what the proofs of these laws stand on. -/
import Derived.Test.YtodinaconebmdaaGreatDoorPzG
set_option linter.all false
namespace Go.Proofs.YtodinaconebmdaaGreatDoor
open Go.RowKit
section
open Classical
variable {x:Int}
def z8 (h:Sm 16 x):Ev (λn=>YU n x) ((BX x:Nat):Int):=by
 have G:IntKind.u64.wrap x=x:=by
  have h1:=h.1;have h2:x<65536:=h.2;rw [zMg];omega
 have key: ∀ (k i:Nat),i+k=64 -> Ev (λn=>RY x n (.l1 (cnt (λs=>tb x s) i) (i:Int))) (cnt (λs=>tb x s) 64):=by
  intro k
  induction k with
  | zero=>
   simp_all [Ev.one,YS,RY]
  | succ k U=>
   intro i e;have hb:=cR (p:=λs=>tb x s) (i:=i);have X:IntKind.u64.wrap (i:Int)=(i:Int):=by rw [zMg];omega
   refine AV.ev (AV.one λn=>?_) (U (i+1) (by omega))
   show YS n (RY x n) x _ (i:Int)=_
   unfold YS;rw [zEE (by omega),zFR,X,G,zCg,wH,eB h (by decide) (by omega)];have a:IntKind.i64.wrap (if tb x i=true then 1 else 0)=if tb x i=true then 1 else 0:=by split <;> decide
   rw [a,Qf,show ((i+1:Nat):Int)=(i:Int)+1 by omega,zEZ ⟨⟨by omega,by show (i:Int)<=((64:Nat):Int);omega⟩,Aj.2 (by split <;> omega),Aj.2 ⟨by omega,by omega⟩⟩]
 have P:cnt (λs=>tb x s) 64=((BX x:Nat):Int):=by
  unfold cnt BX Bv
  have z:(List.range' 16 48).countP (λs=>tb x s)=0:=List.countP_eq_zero.2 λs j=>by
   rw [h.hi (zNU.1 j).1];decide
  rw [←zIM,zNc,show List.range' 0 64=List.range' 0 (16-0)++List.range' 16 48 from rfl,List.countP_append,z];rfl
 have:=key 64 0 (by omega);rw [P] at this;exact this.eq λn=>rfl
def uT: ∀ (a b:Ξ),gp (a++b)=gp a*gp b
 | [],b=>(Nat.one_mul _).symm
 | x::a,b=>by
  show max (BX x) 1*gp (a++b)=max (BX x) 1*gp a*gp b
  rw [uT a b,zND]
variable {j:Nat}{α:Type}
def yT {l:List α}{d:α}(hj:j<l.length):l.take (j+1)=l.take j++[l.getD j d]:=by
 simp_all
def Wy {l:List α}{d:α}(hj:j<l.length):l.drop j=l.getD j d::l.drop (j+1):=by
 simp_all
def Fs (x:Int)(y:Ξ)(j:Nat):List Ξ:=(Bv x j).map λs:Nat=>y++[(s:Int)]
def La (x:Int)(A:List Ξ):List Ξ:=A.flatMap λy=>Fs x y 0
def JZ:Ξ -> List Ξ -> List Ξ
 | [],A=>A
 | x::p,A=>JZ p (La x A)
def u0 : ∀ A:List Ξ,(La x A).length=A.length*BX x
 | []=>(Nat.zero_mul _).symm
 | y::A=>by
  show (Fs x y 0++La x A).length=_
  rw [zGY,u0 A,zGp,zMi,Nat.add_comm];unfold Fs BX;rw [zGX]
def wz: ∀ (p:Ξ) (A:List Ξ) (g:Ξ),g∈JZ p A↔∃ y z,y∈A/\ g=y++z/\ z.length=p.length/\ ∀ j,j<p.length -> ∃ s:Nat,s∈Bv (p.getD j 0) 0/\ z.getD j 0=(s:Int)
 | [],A,g=>by
  constructor
  ·intro h;exact ⟨g,[],h,(zIs g).symm,rfl,λj d=>absurd d (zGR j)⟩
  ·rintro ⟨y,z,h,rfl,a,_⟩;have:z= []:=zMf.1 a;subst this;rw [zIs];exact h
 | x::p,A,g=>by
  show g∈JZ p (La x A)↔_
  rw [wz p];constructor
  ·rintro ⟨y,z,h,rfl,a,d⟩;obtain ⟨y0,h0,c⟩:=List.mem_flatMap.1 h;obtain ⟨s,b,rfl⟩:=zIH.1 c
   grind
  ·rintro ⟨y,z,h,rfl,a,d⟩
   match z,a with
   | v::z,a=>
    obtain ⟨s,b,e⟩:=d 0 (by simp);have e:v=(s:Int):=e;subst e;refine ⟨y++[(s:Int)],z,List.mem_flatMap.2 ⟨y,h,zIH.2 ⟨s,b,rfl⟩⟩,by simp,by simpa using a,λj f=>d (j+1) (by simpa using f)⟩
def wy: ∀ (p:Ξ) (A:List Ξ),A.Nodup -> (JZ p A).Nodup
 | [],A,h=>h
 | x::p,A,h=>by
  refine wy p _ ?_;unfold La List.Nodup;rw [List.pairwise_flatMap];refine ⟨λy _=>?_,h.imp λD u q v a e=>?_⟩
  ·unfold Fs;rw [List.pairwise_map];exact eF.imp λD e=>D (Int.ofNat_inj.1 (by simpa using e))
  ·obtain ⟨s,_,rfl⟩:=zIH.1 q;obtain ⟨t,_,rfl⟩:=zIH.1 a;exact D (List.append_inj_left' e rfl)
section
variable {q:AA} {pos:Ξ}
def p5 (x:Int)(y:Ξ)(j:Int)(c:Int)(A:List Ξ)(r:Int)(o:List Ξ):FY:=if o= [] then .l5 x y j c A (A.length:Int) r else .l8 x o.length y j c A (A.length:Int) r o
def p9 (x:Int)(c:Int)(A:List Ξ)(r:Int)(o:List Ξ):FY:=if o= [] then .l9 x c A (A.length:Int) r else .l10 x o.length c A (A.length:Int) r o
def p2 (c:Int)(A:List Ξ):FY:=if A= [] then .l11 c else .l2 A.length c A
def p6 (A:List Ξ)(j:Int)(o:List Ξ):FY:=if o= [] then .l7 A (A.length:Int) j else .l6 o.length A (A.length:Int) j o
variable {A:List Ξ}{y:Ξ}
def X5 (I:q.symbols<=16){x:Int}(a:Sm q.symbols.toNat x)(hy:y.length<=300){c:Int}{r:Nat}(i:r<=1000000): ∀ (k j:Nat) (o:List Ξ),j+k=q.symbols.toNat -> o.length+k<=1000000 -> AV (Bu q pos) (p5 x y (j:Int) c A (r:Int) o) (p9 x c A ((r+1:Nat):Int) (o++Fs x y j))
 | 0,j,o,e,d=>by
  have w:Fs x y j= []:=by
   grind [Fs,ou]
  rw [w,zIs];refine AV.one λn=>?_
  unfold p5 p9
  by_cases h0:o= []
  ·rw [zEZ h0,zEZ h0]
   show O5 n (Bu q pos n) q pos x y (j:Int) c A (A.length:Int) (r:Int)=_
   unfold O5;rw [zFd (by omega),zGF,zEZ (Aj.2 ⟨by omega,by omega⟩)];rfl
  ·rw [zGN h0,zGN h0]
   show O4 n (Bu q pos n) q pos x o.length y (j:Int) c A (A.length:Int) (r:Int) o=_
   unfold O4;rw [zFd (by omega),zGF,zEZ (Aj.2 ⟨by omega,by omega⟩)];rfl
 | k+1,j,o,e,d=>by
  have L:Ay=1000000000000:=rfl;have X:IntKind.u64.wrap (j:Int)=(j:Int):=by rw [zMg];omega
  have l:AG ((j:Int)+1):=Aj.2 ⟨by omega,by omega⟩;have U:((j+1:Nat):Int)=(j:Int)+1:=by omega
  have v:Bv x j=if tb x j then j::Bv x (j+1) else Bv x (j+1):=eG (by omega)
  cases b:tb x j with
  | false=>
   have w:Fs x y j=Fs x y (j+1):=by unfold Fs;rw [v,b];rfl
   rw [w];refine (AV.one λn=>?_).trans (X5 I a hy i k (j+1) o (by omega) (by omega));unfold p5;rw [U]
   by_cases h0:o= []
   ·rw [zEZ h0,zEZ h0]
    show O5 n (Bu q pos n) q pos x y (j:Int) c A (A.length:Int) (r:Int)=_
    unfold O5;rw [zEE (by omega),zFR,X,zCg,zEZ ⟨by omega,by show (j:Int)<=((64:Nat):Int);omega⟩,Ud a (by omega) (by omega),b,zGF,zEZ l]
   ·rw [zGN h0,zGN h0]
    show O4 n (Bu q pos n) q pos x o.length y (j:Int) c A (A.length:Int) (r:Int) o=_
    unfold O4;rw [zEE (by omega),zFR,X,zCg,zEZ ⟨by omega,by show (j:Int)<=((64:Nat):Int);omega⟩,Ud a (by omega) (by omega),b,zGF,zEZ l]
  | true=>
   have w:o++Fs x y j=(o++[y++[(j:Int)]])++Fs x y (j+1):=by simp_all [Fs]
   rw [w];refine (AV.one λn=>?_).trans (X5 I a hy i k (j+1) (o++[y++[(j:Int)]]) (by omega) (by simp;omega));unfold p5;rw [U,zGN (show ¬ (o++[y++[(j:Int)]]= []) by simp)]
   by_cases h0:o= []
   ·rw [zEZ h0,h0]
    show O5 n (Bu q pos n) q pos x y (j:Int) c A (A.length:Int) (r:Int)=_
    unfold O5;rw [zEE (by omega),zFR,X,zCg,zEZ ⟨by omega,by show (j:Int)<=((64:Nat):Int);omega⟩,Ud a (by omega) (by omega),b,zFR,zEZ ⟨⟨trivial,⟨rfl,rfl⟩,by simp;omega⟩,by simp,⟨⟨rfl,rfl⟩,⟨rfl,by simp⟩,by simp;omega⟩,l⟩];rfl
   ·rw [zGN h0]
    show O4 n (Bu q pos n) q pos x o.length y (j:Int) c A (A.length:Int) (r:Int) o=_
    unfold O4;rw [zEE (by omega),zFR,X,zCg,zEZ ⟨by omega,by show (j:Int)<=((64:Nat):Int);omega⟩,Ud a (by omega) (by omega),b,zFR,zEZ ⟨⟨trivial,⟨rfl,rfl⟩,by simp;omega⟩,by simp,⟨⟨rfl,rfl⟩,⟨rfl,by simp⟩,by simp;omega⟩,rfl,by simp;omega,l⟩,zGY];rfl
def u4 {x:Int}{j:Nat}:(Fs x y j).length<=16:=by
 grind [Fs,Bv]
variable {c:Nat}
def pk (I:q.symbols<=16){x:Int}(a:Sm q.symbols.toNat x)(l:c<=1000000)(f: ∀ y∈A,y.length<=300)(g:A.length<=10000): ∀ (k r:Nat) (o:List Ξ),r+k=A.length -> o.length<=16*r -> AV (Bu q pos) (p9 x (c:Int) A (r:Int) o) (p2 ((c+1:Nat):Int) (o++(A.drop r).flatMap λy=>Fs x y 0))
 | 0,r,o,e,h=>by
  have e:r=A.length:=by omega
  subst e;rw [zM6,List.flatMap_nil,zIs];refine AV.one λn=>?_
  unfold p9 p2
  by_cases h0:o= []
  ·rw [zEZ h0,zEZ h0]
   show YI n (Bu q pos n) q pos x (c:Int) A (A.length:Int) (A.length:Int)=_
   unfold YI;rw [zFd (by omega),zGF,zEZ (Aj.2 ⟨by omega,by omega⟩)];rfl
  ·rw [zGN h0,zGN h0]
   show YL n (Bu q pos n) q pos x o.length (c:Int) A (A.length:Int) (A.length:Int) o=_
   unfold YL;rw [zFd (by omega),zGF,zEZ (Aj.2 ⟨by omega,by omega⟩)];rfl
 | k+1,r,o,e,h=>by
  have i:r<A.length:=by omega
  have v:A.getD r []∈A:=by
   grind
  have hy:=f _ v;have hl:=u4 (x:=x) (y:=A.getD r []) (j:=0);rw [Wy (d:=[]) i,zNN,←zNS];refine ((AV.one (b:=p5 x (A.getD r []) ((0:Nat):Int) (c:Int) A (r:Int) o) λn=>?_).trans (X5 I a hy (by omega) q.symbols.toNat 0 o (by omega) (by omega))).trans (pk I a l f g k (r+1) (o++Fs x (A.getD r []) 0) (by omega) (by rw [zGY];omega));unfold p9 p5
  by_cases h0:o= []
  ·simp_all [YI,Bu]
  simp_all [YL,Bu]
def zLH (g:A4 q pos)(l:c<pos.length)(a: ∀ y∈A,y.length<=300)(h:A.length<=10000):AV (Bu q pos) (p2 (c:Int) A) (p2 ((c+1:Nat):Int) (La (pos.getD c 0) A)):=by
 have Ec:=g.len256;have I:q.symbols<=16:=by have:=(DM g.valid).2.1;omega
 by_cases h0:A= []
 ·subst h0;refine (AV.one (b:=.l12 (pos.getD c 0) (c:Int)) λn=>?_).trans (AV.one λn=>?_)
  ·show UY n (Bu q pos n) q pos (c:Int)=_
   simp_all [UY]
  ·show d5 n (Bu q pos n) q pos (pos.getD c 0) (c:Int)=_
   unfold d5;rw [zEZ (Aj.2 ⟨by omega,by omega⟩)];rfl
 ·have m:0<A.length:=by
   grind
  have v:A.getD 0 []∈A:=by
   grind
  have f:=g.sm c l;have Q:=u4 (x:=pos.getD c 0) (y:=A.getD 0 []) (j:=0)
  have e:La (pos.getD c 0) A=([]++Fs (pos.getD c 0) (A.getD 0 []) 0)++(A.drop 1).flatMap λy=>Fs (pos.getD c 0) y 0:=by
   unfold La;have:=Wy (d:=([]:Ξ)) m
   grind
  rw [e];refine (((AV.one (b:=.l3 (pos.getD c 0) (c:Int) A.length (A.length:Int) A) λn=>?_).trans (AV.one (b:=p5 (pos.getD c 0) (A.getD 0 []) ((0:Nat):Int) (c:Int) A ((0:Nat):Int) []) λn=>?_)).trans (X5 I f (a _ v) (by omega) q.symbols.toNat 0 [] (by omega) (by simp;omega))).trans (pk I f (by omega) a h (A.length-1) 1 _ (by omega) (by simpa using Q))
  ·simp_all [p2,dz,Bu]
  ·show dy n (Bu q pos n) q pos (pos.getD c 0) (c:Int) A.length (A.length:Int) A=_
   unfold dy;rw [zEE (by omega),zFR,zEZ rfl,zEZ ⟨zGl _,by omega⟩];rfl
def vo (g:A4 q pos): ∀ (k c:Nat) (A:List Ξ),c+k=pos.length -> (∀ y∈A,y.length=c) -> A.length*gp (pos.drop c)<=1024 -> AV (Bu q pos) (p2 (c:Int) A) (p2 (pos.length:Int) (JZ (pos.drop c) A))/\ (JZ (pos.drop c) A).length<=1024
 | 0,c,A,e,_,a=>by
  have e:c=pos.length:=by omega
  subst e;rw [zM6] at a ⊢;exact ⟨AV.refl,by show A.length<=1024;simpa [gp] using a⟩
 | k+1,c,A,e,hy,a=>by
  have l:c<pos.length:=by omega
  have Ec:=g.len256;rw [Wy (d:=0) l] at a ⊢;have a:A.length*(max (BX (pos.getD c 0)) 1*gp (pos.drop (c+1)))<=1024:=a;have j:=QT (pos.drop (c+1));have hl:A.length<=1024:=zGK (Nat.le_mul_of_pos_right _ (Nat.mul_pos (by omega) j)) a
  have b:(La (pos.getD c 0) A).length*gp (pos.drop (c+1))<=1024:=by
   rw [u0,zND];exact zGK (Nat.mul_le_mul_left _ (zI0 _ (by omega))) a
  obtain ⟨X,L⟩:=vo g k (c+1) (La (pos.getD c 0) A) (by omega) (λy h=>by
   obtain ⟨r,h0,f⟩:=List.mem_flatMap.1 h;obtain ⟨s,_,rfl⟩:=zIH.1 f;rw [zGY,hy r h0];rfl) b
  exact ⟨(zLH g l (λy h=>by rw [hy y h];omega) (by omega)).trans X,L⟩
def zDr (hA:A.length<=1024){j:Nat}(hj:j<A.length){o:List Ξ}(ho:o.length<=j){b:Bool}(c:Ev (λn=>Kl n q (A.getD j [])) (b,0)):AV (Bu q pos) (p6 A (j:Int) o) (p6 A ((j+1:Nat):Int) (if b=true then o++[A.getD j []] else o)):=by
 have L:Ay=1000000000000:=rfl;obtain ⟨N,X⟩:=c;have X: ∀ n,N<=n -> Kl n q (A.getD j [])=some (b,0):=X;have r1:AG ((j:Int)+1):=Aj.2 ⟨by omega,by omega⟩;refine AV.oneN N λn u=>?_
 unfold p6;rw [show ((j+1:Nat):Int)=(j:Int)+1 by omega]
 by_cases h0:o= []
 ·rw [zEZ h0,h0]
  show YJ n (Bu q pos n) q pos A (A.length:Int) (j:Int)=_
  unfold YJ
  grind
 ·rw [zGN h0]
  show YK n (Bu q pos n) q pos o.length A (A.length:Int) (j:Int) o=_
  unfold YK;rw [zEE (by omega),zFR,zEZ ⟨by omega,by omega⟩,zCg,X n u,zEb]
  grind
def fm (a:A.length<=1024)(h: ∀ g∈A,∃ b,Ev (λn=>Kl n q g) (b,0)/\ (b=true↔Kb q g)): ∀ (k j:Nat) (o:List Ξ),j+k=A.length -> o.length<=j -> Ev (λn=>Bu q pos n (p6 A (j:Int) o)) (o++(A.drop j).filter λg=>decide (Kb q g),true)
 | 0,j,o,e,x=>by
  have e:j=A.length:=by omega
  subst e;rw [zM6,List.filter_nil,zIs];refine Ev.one λn=>?_
  unfold p6
  by_cases h0:o= []
  ·simp_all [YJ,Bu]
  simp_all [YK,Bu]
 | k+1,j,o,e,x=>by
  have c:j<A.length:=by omega
  have v:A.getD j []∈A:=by
   grind
  obtain ⟨b,r,b2⟩:=h _ v;refine AV.ev (zDr a c x r) ?_;have U:=fm a h k (j+1) (if b=true then o++[A.getD j []] else o) (by omega) (by cases b <;> simp <;> omega)
  have z:o++(A.drop j).filter (λg=>decide (Kb q g))=(if b=true then o++[A.getD j []] else o)++(A.drop (j+1)).filter λg=>decide (Kb q g):=by
   rw [Wy (d:=[]) c,zI9]
   grind
  rw [z];exact U
def cy (q:AA)(pos:Ξ)(r:List Ξ×Bool):Prop:=r.2=true -> A4 q pos/\ gp pos<=1024/\ r.1.Nodup/\ r.1.length<=1024/\ ∀ g,g∈r.1↔Nd q g/\ WI g pos
def uX (a:A4 q pos){g:Ξ}:g∈JZ pos [[]]↔Gd q g/\ WI g pos:=by
 have Am:=a.len;rw [wz];constructor
 ·rintro ⟨y,z,hy,rfl,v,d⟩;have hy:y= []:=zGh.1 hy;subst hy;rw [zIg];refine ⟨⟨by omega,λj h=>?_⟩,v,λj h=>?_⟩
  ·obtain ⟨s,b,e⟩:=d j (by omega);have:=YY a (by omega) s b;rw [e];omega
  grind [Hd]
 ·rintro ⟨G,w⟩;refine ⟨[],g,zGh.2 rfl,rfl,w.1,λj h=>?_⟩;have h1:=w.2 j (by rw [w.1];exact h)
  grind [Hd]
def zCn (a:A4 q pos)(Q:DK q)(T:q.cons.length<=LB)(j:gp pos<=1024): ∃ r,Ev (λn=>Bu q pos n (.l2 1 0 [[]])) r/\ cy q pos r:=by
 obtain ⟨o,s⟩:=vo a pos.length 0 [[]] (by omega) (λy h=>by rw [zGh.1 h];rfl) (by simpa using j);rw [zJ5] at o s;have c: ∀ g∈JZ pos [[]],∃ b,Ev (λn=>Kl n q g) (b,0)/\ (b=true↔Kb q g):=λg h=>zL Q a.valid ((uX a).1 h).1 T
 refine ⟨((JZ pos [[]]).filter (λg=>decide (Kb q g)),true),AV.ev (m:=Bu q pos) o ?_,λ_=>⟨a,j,zNJ zMd (wy pos [[]] (by simp)),zGK (zNW _ _) s,λg=>?_⟩⟩
 ·by_cases h0:JZ pos [[]]= []
  ·rw [h0];refine AV.ev (m:=Bu q pos) (AV.one (b:=.l13) λn=>?_) (Ev.one λn=>?_)
   ·show UY n (Bu q pos n) q pos (pos.length:Int)=_
    simp_all [UY]
   ·rfl
  ·have k:0<(JZ pos [[]]).length:=by
    grind
   generalize hA:JZ pos [[]]=A at*
   have v:A.getD 0 []∈A:=by
    grind
   have:=fm (pos:=pos) s c A.length 0 [] (by omega) (zGT _);rw [zJ5,zIg] at this;obtain ⟨b,l,b2⟩:=c _ v;have P:=fm (pos:=pos) s c (A.length-1) 1 (if b=true then []++[A.getD 0 []] else []) (by omega) (by split <;> simp)
   have z:A.filter (λg=>decide (Kb q g))=(if b=true then []++[A.getD 0 []] else [])++(A.drop 1).filter λg=>decide (Kb q g):=by
    have hd:=Wy (d:=([]:Ξ)) k
    grind
   rw [z];obtain ⟨N,X⟩:=l;have X: ∀ n,N<=n -> Kl n q (A.getD 0 [])=some (b,0):=X;refine AV.ev (m:=Bu q pos) ((AV.one (b:=.l4 A.length (A.length:Int) A) λn=>?_).trans (AV.oneN N λn u=>?_)) P
   ·simp_all [p2,dz,Bu]
   ·show dx n (Bu q pos n) q pos A.length (A.length:Int) A=_
    unfold dx;rw [zEE (by omega),zFR,zEZ rfl,zEZ ⟨zGl _,by omega⟩,X n u,zEb];cases b <;> rfl
 ·rw [zI2,uX a];constructor
  ·rintro ⟨⟨e,f⟩,i⟩;exact ⟨⟨e,zIT i⟩,f⟩
  ·rintro ⟨⟨e,i⟩,f⟩
   grind
def zY (Q:DK q)(i:Oh q)(s:pos.length<=LB): ∃ r,Ev (λn=>d8 n q pos) r/\ cy q pos r:=by
 obtain ⟨b,c,_⟩:=zJt Q i;cases b with
 | false=>exact ⟨([],false),Ev.bind c (Ev.now λn=>rfl),λh=>by cases h⟩
 | true=>
  have f:Ev (λn=>Uy n q pos) (Dm q pos):=⟨Dz q+pos.length+1,λn u=>zCA Q (by omega) s (by omega)⟩
  by_cases h0:Dm q pos=0
  ·have g:=A4.of Q h0;have Ec:=g.len256
   have key: ∀ (k j:Nat),j+k=pos.length -> gp (pos.take j)<=1024 -> ∃ r,Ev (λn=>Bu q pos n (.l1 ((gp (pos.take j):Nat):Int) (j:Int))) r/\ cy q pos r:=by
    intro k
    induction k with
    | zero=>
     intro j e a;have e:j=pos.length:=by omega
     subst e;rw [zNa] at a ⊢;obtain ⟨r,l,y⟩:=zCn g Q i.cons a;refine ⟨r,AV.ev (m:=Bu q pos) (AV.one λn=>?_) l,y⟩
     simp_all [YM,Bu]
    | succ k U=>
     intro j e a;have o:j<pos.length:=by omega
     obtain ⟨N,X⟩:=z8 (g.sm16 j o);have X: ∀ n,N<=n -> YU n (pos.getD j 0)=some ((BX (pos.getD j 0):Nat):Int):=X;have WX:BX (pos.getD j 0)<=16:=eH
     have p:gp (pos.take (j+1))=gp (pos.take j)*max (BX (pos.getD j 0)) 1:=by
      rw [yT (d:=0) o,uT]
      show _*(max (BX (pos.getD j 0)) 1*1)=_
      rw [zIS]
     have em:(if (1:Int)>((BX (pos.getD j 0):Nat):Int) then 1 else ((BX (pos.getD j 0):Nat):Int))=((max (BX (pos.getD j 0)) 1:Nat):Int):=by split <;> omega
     have z:((gp (pos.take j):Nat):Int)*((max (BX (pos.getD j 0)) 1:Nat):Int)=((gp (pos.take (j+1)):Nat):Int):=by rw [p,Int.natCast_mul]
     have BU:gp (pos.take (j+1))<=1024*16:=by rw [p];exact zNO a (by omega)
     have step: ∀ n,N<=n -> Bu q pos (n+1) (.l1 ((gp (pos.take j):Nat):Int) (j:Int))=bif decide (((gp (pos.take (j+1)):Nat):Int)>1024) then some ([],false) else Bu q pos n (.l1 ((gp (pos.take (j+1)):Nat):Int) ((j+1:Nat):Int)):=λn u=>by
      show YM n (Bu q pos n) q pos _ (j:Int)=_
      unfold YM;rw [zEE (by omega),zFR,zEZ ⟨by omega,by omega⟩,zCg,X n u,zEb,em,z,zEZ (Aj.2 ⟨by omega,by omega⟩),zEZ (Aj.2 ⟨by omega,by omega⟩),show ((j+1:Nat):Int)=(j:Int)+1 by omega]
     by_cases h:((gp (pos.take (j+1)):Nat):Int)>1024
     ·exact ⟨([],false),Ev.oneN N λn u=>by grind,λh=>by cases h⟩
     ·obtain ⟨r,l,y⟩:=U (j+1) (by omega) (by omega);exact ⟨r,AV.ev (m:=Bu q pos) (AV.oneN N λn u=>by grind) l,y⟩
   obtain ⟨r,l,y⟩:=key pos.length 0 (by omega) (by show 1<=1024;decide);rw [h0] at f;exact ⟨r,Ev.bind c (Ev.bind f (l.eq λn=>rfl)),y⟩
  ·refine ⟨([],false),Ev.bind c (Ev.bind f (Ev.now λn=>?_)),λh=>by cases h⟩
   grind
end
end


def zAJ:Ev Um true:=⟨300,λn hn=>by
 obtain ⟨k,rfl⟩: ∃ k,n=k+300:=⟨n-300,by omega⟩
 show Um (k+300)=some true
 kernel_rfl⟩
section
variable {q:AA} {p:Ξ}
def IA.len (g:A4 q p){x:Ξ}(h:IA q 4 p x):x.length<=256:=(h.posn g).1.len256.2
variable {l:List Bc}
def Sr.short {m:Option (Nat×Θ)}(h:Sr q m p l):A4 q p -> (∀ c ss,m=some (c,ss) -> c<p.length/\ ∀ s∈ss,s<q.symbols.toNat) -> ∀ y∈l,y.2.length<=256:=by
 have d: ∀ {o:Ξ} {y:Bc},y∈o.map PH -> y.2.length<=256:=λh=>by
  obtain ⟨i,_,rfl⟩:=zIH.1 h;exact zIG _
 induction h with
 | dead _ _ _=>
  intro g _ y hy;rcases zIF.1 hy with hy | hy
  ·exact d hy
  ·rw [zGh.1 hy];exact zIG _
 | done _ f _ A=>
  intro g _ y hy;rcases zIF.1 hy with hy | hy
  ·exact d hy
  ·rw [zGh.1 hy]
   show List.length _<=256
   rw [Ua A];exact f.len g
 | @split p x o c l h1 f h3 A h5 k h7 _ U=>
  intro g _ y hy;have n:=(f.posn g).1;rcases zIF.1 hy with hy | hy
  ·exact d hy
  ·rcases zIq.1 hy with rfl | hy
   ·exact zIG _
   ·refine U n (λS ss e=>?_) y hy;cases e;refine ⟨k,λs j=>zGa λr=>?_⟩;have:=(Hd.1 j).2;rw [(n.sm c k).hi r] at this;cases this
 | nil=>intro _ _ y hy;cases hy
 | @cons x c s ss a b _ _ u v=>
  intro g z y hy;obtain ⟨w,t⟩:=z c (s::ss) rfl;rcases zIF.1 hy with hy | hy
  ·exact u (g.fx w (t s zIL)) (λ_ _ e=>by cases e) y hy
  ·exact v g (λS oF e=>by cases e;exact ⟨w,λs j=>t s (zH5 _ j)⟩) y hy
def Sr.ne (h:Sr q none p l):l≠[]:=by
 cases h <;> simp
end
section
variable {q:AA} {pos:Ξ}
structure Mr (q:AA)(pos:Ξ)(D:List Ξ):Prop where
 nd:D.Nodup
 mem: ∀ g,g∈D↔Nd q g/\ WI g pos
variable {D:List Ξ}
def Mr.perm {E:List Ξ}(h:Mr q pos D)(h':Mr q pos E):D.length=E.length:=
 ((List.perm_ext_iff_of_nodup h.nd h'.nd).2 λg=>(h.mem g).trans (h'.mem g).symm).length_eq
def oG (g:A4 q pos)(hg:gp pos<=1024): ∃ l,Ev (λn=>J2 n q pos) l/\ l≠[]/\ l.length<=3072/\ Mr q pos (CZ l)/\ ∀ y∈l,y.2.length<=256:=by
 obtain ⟨l,S,J⟩:=zEO g;have hz:=(S.size g).1 rfl;obtain ⟨a,E⟩:=(S.sols g).1 rfl;exact ⟨l,J,S.ne,by omega,⟨a,E⟩,S.short g (λ_ _ e=>by cases e)⟩
variable {k:Nat}{l:List Bc}
def zDx (hk:0<k)(hl:l.length<=3072): ∃ R:HR,SD (k:Int) l 60000=some R/\ R.1=(CZ l).take k/\ R.2.2=decide (k<=(CZ l).length)/\ (l≠[] -> 0<R.2.1.length):=by
 obtain ⟨a,b,h⟩:=il (k:=k) l [] [] hk;refine ⟨Fb (k:Int) l [] [],?_,by simpa using a,by simpa using b,λD=>(ah l [] []).2 D⟩;unfold SD;rw [zEZ (by simp at h;omega)]
def r7 (g:A4 q pos)(h:Ev (λn=>J2 n q pos) l)(m:l.length<=3072)(hk:0<k)(hk2:k<=65536):Ev (λn=>J3 n q pos (k:Int) 60000) (((min k (CZ l).length:Nat):Int),0):=by
 obtain ⟨R,e,a,_⟩:=zDx hk m;have:=zEp (most:=(k:Int)) g h ⟨by omega,by omega⟩ (f:=60000) (by decide);rw [e] at this
 show Ev (λn=>J3 n q pos (k:Int) ((60000:Nat):Int)) _
 rw [show min k (CZ l).length=R.1.length by rw [a,List.length_take]];exact this
def zX (hp:A4 q pos)(h:Mr q pos D){r:List Ξ×Bool}(i:cy q pos r)(b:r.2=true):D.length<=1024/\ D.length=r.1.length:=by
 obtain ⟨_,_,l,r2,n⟩:=i b;have:=h.perm ⟨l,n⟩;omega
variable {c:Nat}
def zJI (h:A4 q pos){s:Nat}(l:c<pos.length)(j:s<q.symbols.toNat):gp (EC pos c s)<=gp pos:=by
 have v: ∀ n,gp (List.replicate n 0)=1:=λn=>by
  induction n with
  | zero=>rfl
  | succ n U=>show max (BX 0) 1*gp (List.replicate n 0)=1;rw [U];decide
 have J:=QT pos;unfold EC;split
 ·rw [v];exact J
 ·obtain ⟨z1,T⟩:=Wd h.valid h.ok l j;have w:=WZ pos c ((Ed pos c s).getD c 0) l
  have P:pos.set c ((Ed pos c s).getD c 0)=Ed pos c s:=by
   unfold Ed;rw [QW l]
  rw [P] at w
  have BU:BX ((Ed pos c s).getD c 0)<=BX (pos.getD c 0):=nu λt X=>by
   rw [(T c l).2,zEh] at X;exact X.1
  have b:gp (Ed pos c s)*max (BX (pos.getD c 0)) 1<=gp pos*max (BX (pos.getD c 0)) 1:=by
   rw [w];exact Nat.mul_le_mul_left _ (by omega)
  exact Nat.le_of_mul_le_mul_right b (by omega)
def oK (h:A4 q pos)(l:c<pos.length)(U:Mr q pos D){E:Nat -> List Ξ}(C: ∀ s,s<q.symbols.toNat -> Mr q (EC pos c s) (E s)): ∀ k,k<=q.symbols.toNat -> (D.filter λg=>decide ((g.getD c 0).toNat<k)).length=((List.range k).map λs=>(E s).length).sum
 | 0,_=>by simp
 | k+1,hk=>by
  have b:=oK h l U C k (by omega);rw [zJ9,zMq,List.sum_append,←b];have f:=λg=>mZ (g:=g) h.valid h.ok l (show k<q.symbols.toNat by omega)
  have w:(D.filter λg=>decide ((g.getD c 0).toNat=k)).length=(E k).length:=by
   have:Mr q (EC pos c k) (D.filter λg=>decide ((g.getD c 0).toNat=k)):=⟨zNJ zMd U.nd,λg=>by
    rw [zI2,U.mem,f,zGM,and_assoc]⟩
   exact this.perm (C k (by omega))
  have z: ∀ L:List Ξ,(L.filter λg=>decide ((g.getD c 0).toNat<k+1)).length=(L.filter λg=>decide ((g.getD c 0).toNat<k)).length+(L.filter λg=>decide ((g.getD c 0).toNat=k)).length:=λL=>by
   induction L with
   | nil=>rfl
   | cons g L a=>
    rw [zI9,zI9,zI9];rcases Nat.lt_trichotomy (g.getD c 0).toNat k with h1 | h1 | h1
    ·rw [zEZ (zEE (by omega)),zEZ (zEE h1),zGN (by rw [zGM];omega),zGp,zGp,a];omega
    ·rw [zEZ (zEE (by omega)),zGN (by rw [zGM];omega),zEZ (zEE h1),zGp,zGp,a];omega
    ·rw [zGN (by rw [zGM];omega),zGN (by rw [zGM];omega),zGN (by rw [zGM];omega),a]
  rw [z,w];simp
def zFM (q:AA)(pos:Ξ)(cell:Int)(Q:DK q)(v:Oh q)(w:pos.length<=LB)(x:0<=cell/\ cell<256):Ev (λn=>sM n q pos cell) true:=by
 obtain ⟨r,z,y⟩:=zY Q v w;obtain ⟨r,b⟩:=r;refine Ev.bind zAJ (Ev.bind z ?_);cases b with
 | false=>exact Ev.now λn=>rfl
 | true=>
  obtain ⟨a,i,_,r4,_⟩:=y rfl;have Ec:=a.len256;obtain ⟨l,S,l2,I,H,_⟩:=oG a i;have A:(CZ l).length<=1024:=(zX a H y rfl).1
  obtain ⟨c,T,C⟩: ∃ c:Nat,c<pos.length/\ Int.tmod (IntKind.i64.wrap cell) (pos.length:Int)=(c:Int):=by
   have G:IntKind.i64.wrap cell=cell:=by rw [zM5];omega
   have a1:=Int.tmod_nonneg (pos.length:Int) x.1;have a2:=Int.tmod_lt_of_pos cell (show (0:Int)<(pos.length:Int) by omega);exact ⟨(Int.tmod cell (pos.length:Int)).toNat,by omega,by rw [G];omega⟩
  have V2:=(DM a.valid).2.1;have B:=λs (d:s<q.symbols.toNat)=>oG (a.fx T d) (zGK (zJI a T d) i)
  have D: ∃ L:Nat -> List Bc,∀ s,s<q.symbols.toNat -> Ev (λn=>J2 n q (EC pos c s)) (L s)/\ (L s).length<=3072/\ Mr q (EC pos c s) (CZ (L s)):=by
   refine ⟨λs=>if d:s<q.symbols.toNat then Classical.choose (B s d) else [],λs d=>?_⟩;have:=Classical.choose_spec (B s d);simp only [dif_pos d];exact ⟨this.1,this.2.2.1,this.2.2.2.1⟩
  obtain ⟨L,o⟩:=D;have M:=oK a T H (λs d=>(o s d).2.2)
  have p: ∀ k,k<=q.symbols.toNat -> ((List.range k).map λs=>(CZ (L s)).length).sum<=1024:=λk hk=>by
   rw [←M k hk];exact zGK (zNW _ _) A
  have E: ∀ s,s<q.symbols.toNat -> (CZ (L s)).length<=1024:=λs d=>by
   have:=p (s+1) (by omega);rw [zJ9,zMq,List.sum_append] at this;simp at this;omega
  have key: ∀ (k j:Nat),j+k=q.symbols.toNat -> Ev (λn=>Nn q pos cell n (.l1 (((CZ l).length:Nat):Int) 0 ((((List.range j).map λs=>(CZ (L s)).length).sum:Nat):Int) (j:Int))) true:=by
   intro k
   induction k with
   | zero=>
    intro j e;have e:j=q.symbols.toNat:=by omega
    subst e;refine Ev.one λn=>?_
    show Vp n (Nn q pos cell n) q pos cell _ 0 _ ((q.symbols.toNat:Nat):Int)=_
    unfold Vp;rw [zFd (by omega),zGF,←M _ (zGT _)]
    have:(CZ l).filter (λg=>decide ((g.getD c 0).toNat<q.symbols.toNat))=CZ l:=List.filter_eq_self.2 λg h=>by
     have t:=(H.mem g).1 h;have F:=t.1.1.lt a.valid (show c<g.length by rw [t.2.1];exact T);exact zEE F.1
    rw [this];simp
   | succ k U=>
    intro j e;have f:j<q.symbols.toNat:=by omega
    obtain ⟨J,K,e3⟩:=o j f;have V:=r7 (a.fx T f) J K (k:=2000) (by decide) (by decide);have tX:=E j f;rw [show min 2000 (CZ (L j)).length=(CZ (L j)).length by omega] at V;obtain ⟨N,X⟩:=V;have X: ∀ n,N<=n -> J3 n q (EC pos c j,(0:Int)).1 2000 60000=some (((CZ (L j)).length:Int),0):=X;have s1:=p j (by omega);refine AV.ev (m:=Nn q pos cell) (AV.oneN (max N (Dz q+300)) λn hn=>?_) (U (j+1) (by omega))
    show Vp n (Nn q pos cell n) q pos cell _ 0 _ (j:Int)=_
    unfold Vp;rw [zEE (by omega),zFR,C,uj a.fit a.valid a.ok T f (by omega),zEb,show ((EC pos c j,(0:Int)).2 != 0)=false from rfl,zGF,X n (by omega),zEb]
    show (if _ then _ else none)=_
    rw [zEZ ⟨Aj.2 ⟨by simp only;omega,by simp only;omega⟩,Aj.2 ⟨by omega,by omega⟩⟩,zJ9,zMq,List.sum_append,show ((j+1:Nat):Int)=(j:Int)+1 by omega];simp
  have u:=r7 a S I (k:=2000) (by decide) (by decide);rw [show min 2000 (CZ l).length=(CZ l).length by omega] at u;refine Ev.eq (Ev.bind u (b:=λn y3=>Nn q pos cell n (.l1 y3.1 y3.2 0 0)) (key q.symbols.toNat 0 (by omega))) λn=>?_
  show (bif ((pos.length:Int)==0) then some true else if (pos.length:Int)≠0 then _ else none)=_
  rw [zH4.2 (show (pos.length:Int)≠0 by omega),zGF,zEZ (by omega)];rfl
end
end Go.Proofs.YtodinaconebmdaaGreatDoor
