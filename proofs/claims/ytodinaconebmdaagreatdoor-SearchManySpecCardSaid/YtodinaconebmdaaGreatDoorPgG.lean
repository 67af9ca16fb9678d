/- Part 7 of 8 of what the proofs of these laws stand on. -/
import Derived.Test.YtodinaconebmdaaGreatDoorPgF
import Derived.RangeFuncLeaves
import Derived.RecoverIn
set_option linter.all false
namespace Go.Proofs.YtodinaconebmdaaGreatDoor
open Go.RowKit
section
set_option maxRecDepth 100000
set_option maxHeartbeats 40000000
def zPS (n:Nat)(s_:Int):Option Unit:= some ()
def zPT (n:Nat)(G:Int):Option Unit:=zPS n G
variable {n:Nat}
def zPR (G:Int){r:Unit}(h:zPT n G=some r):EQ 63 [.int .u64 G] [] (.fn 93 1 (L1 [.ref 0 0])) [oC [.int .u64 G]] true:=by
 refine ot Tryz.func63 λB N=>?_
 revert r;apply gO;exact lE AD [2] [0]
inductive Ug where
 | l1 (x3:Int)
def PF (n:Nat)(self:Ug -> Option Ξ)(G:Int)(D:Int):Option Ξ:= if 0<=D/\ D<=(IntKind.u64.bits:Int) then bif ((G/2 ^ (D).toNat) != 0) then bif (decide (D<64)) then bif ((bits .and .u64 (G/2 ^ (D).toNat) 1)==1) then if 0<=D/\ D<=(IntKind.u64.bits:Int) then bif ((bits .and .u64 (G/2 ^ (D).toNat) 1)==1) then Option.map (λl=>D::l) (if AG (D+1) then self (.l1 (D+1)) else none) else if AG (D+1) then self (.l1 (D+1)) else none else none else if AG (D+1) then self (.l1 (D+1)) else none else some [] else some [] else none
def zAm (n:Nat)(self:Ug -> Option Ξ)(s_:Int):Option Ξ:= self (.l1 0)
def Jf (G:Int):Nat -> Ug -> Option Ξ
 | 0,_=>none
 | n+1,.l1 D=>PF n (Jf G n) G D
def NJ (n:Nat)(G:Int):Option Ξ:=zAm n (Jf G n) G
def ov (C:Dt Tryz.prog)(n:Nat)(G:Int)(r:Ξ):Ug -> Prop
 | .l1 D=>∀ m:Nat,n<=m -> ∀ i:Nat,i<=C.encs.length -> C.encs.drop i=r.map Br -> A5 Tryz.prog GG Fence.wide none 1 (C.Y GG 1 i) (C.Q GG 1) (Dx m (Fk (Ac Tryz.f93) 0 [])) ⟨AH 25 [(0,.yl C.l),(1,.ref 0 0),(3,.i D)],[oC [.int .u64 G]]⟩
def zPU (C:Dt Tryz.prog)(n:Nat)(self:Ug -> Option Ξ)(G:Int)(d: ∀ o r,self o=some r -> ov C n G r o)(D:Int)(r:Ξ)(h:PF n self G D=some r):ov C (n+1) G r (.l1 D):=by
 intro m k;intro i hi v;refine rd k λm k=>?_
 unfold PF at h;obtain ⟨W,h⟩:=DE h;have p:=H0.g W;rcases DN h with ⟨a,h⟩ | ⟨a,h⟩
 ·have p:=p.b 7 a;rcases DN h with ⟨c,h⟩ | ⟨c,h⟩
  ·have p:=p.b 10 c |>.g W
   rcases DN h with ⟨q,h⟩ | ⟨q,h⟩
   ·have p:=H0.g W |>.b 7 a |>.b 10 c
    refine gs (AJ 3 AD) [0] p (Dr (Ac Tryz.f93) 3 [m]) (AH 25 [(0,.yl C.l),(1,.ref 0 0),(3,.i D)]) [oC [.int .u64 G]] ?_;obtain ⟨f,h⟩:=DE h;have p:=H0.g f;rcases DN h with ⟨a,h⟩ | ⟨a,h⟩
    ·have p:=p.b 18 a;obtain ⟨r,s,rfl⟩:=TO h;clear h;have h:=s;clear s;obtain ⟨t,hi,v⟩:=nk v;refine A5.y (ops:=A0 Tryz.f93 3) HC.x 8 [0,1,3,24] [0] p (x:=Br D) (AH 25 [(0,.yl C.l),(1,.ref 0 0),(3,.i D),(24,.bool false)]) [oC [.int .u64 G]] (AH 25 [(0,.yl C.l),(1,.ref 0 0),(3,.i D),(24,.bool true)]) [oC [.int .u64 G]] Z5 Z5 Z5 t Z5 ?_ ?_
     ·generalize i+1=i at hi v ⊢
      obtain ⟨j,h⟩:=DE h;have p:=H0.w 13 j;exact gg AD [0] p (d _ _ h m k i hi v)
     ·exact TrI.e HC.x AD 6 H0 Z5 (.inr rfl)
    ·obtain ⟨j,h⟩:=DE h;have p:=p.b 18 a |>.w 13 j
     exact gg AD [0] p (d _ _ h m k i hi v)
   ·obtain ⟨f,h⟩:=DE h;have p:=p.b 18 q |>.w 13 f
    exact gg AD [0] p (d _ _ h m k i hi v)
  ·have p:=p.b 10 c;cases h;exact TrI.e HC.x AD 10 p Z5 (.inl (by rw [Xy hi v]))
 ·have p:=p.b 7 a;cases h;exact TrI.e HC.x AD 10 p Z5 (.inl (by rw [Xy hi v]))
def zAn (C:Dt Tryz.prog)(G:Int): ∀ (n:Nat) (m:Ug) (r:Ξ),Jf G n m=some r -> ov C n G r m
 | 0,_,_,h=>by cases h
 | n+1,.l1 D,r,h=>zPU C n (Jf G n) G (zAn C G n) D r h
variable {r:Ξ}
def zPV (G:Int)(h:NJ n G=some r)(C:Dt Tryz.prog)(U:C.encs=r.map Br):A5 Tryz.prog GG Fence.wide none 1 (C.Y GG 1 0) (C.Q GG 1) [.code (Ac Tryz.f93)] ⟨AH 25 [(0,.yl C.l),(1,.ref 0 0)],[oC [.int .u64 G]]⟩:=by
 suffices H: ∀ i:Nat,i<=C.encs.length -> C.encs.drop i=r.map Br -> A5 Tryz.prog GG Fence.wide none 1 (C.Y GG 1 i) (C.Q GG 1) [.code (Ac Tryz.f93)] ⟨AH 25 [(0,.yl C.l),(1,.ref 0 0)],[oC [.int .u64 G]]⟩ from H 0 (zJs _) (by rw [zQF];exact U)
 intro i hi v;have w:=zAn C G n;unfold NJ at h
 generalize Jf G n=self at h w
 unfold zAm at h;have p:=H0;exact gg AD [0] p (en n (w _ _ h n Nat.le.refl i hi v))
variable {G:Int}
def oq (h:NJ n G=some r)(H:DH):EQ 63 [.int .u64 G] H (.it H.length) (H++[some (.iter (r.map Br))]) true:=by
 refine ES.iterN (c:=L1 [.ref 0 0]) (h0:=[oC [.int .u64 G]]) (fn:=Tryz.f93) (zPR (n:=0) G (r:=()) rfl) Z5 Tryz.func93 Z5 Z5 Z5 (λC U=>?_) H;have e:DV.yl C.l::(List.range 1).map (L1 [.ref 0 0])++List.replicate (Tryz.f93.ntmps-(1+1)) .any=AH 25 [(0,.yl C.l),(1,.ref 0 0)]:=Z5
 rw [e];exact zPV G h C U
inductive Nh where
 | s0 (LQ:Int)
def rW:Nh -> DH
 | .s0 U=>[oC [.i U],none]
def VJ (n:Nat)(e5:Int)(U:Int):Option Nh:= if AG (U+1) then some (.s0 (U+1)) else none
def zCc (n:Nat)(k:Int):Nh -> Option Nh
 | .s0 U=>VJ n k U
def ZZ (n:Nat)(k:Int)(s:Nh):Option Nh:=zCc n k s
def zCb (n:Nat)(l B:Nat)(N:Yd 2)(k:Int)(s:Nh)(r:Nh)(h:ZZ n k s=some r):TA l B N (Cx 2 [] 0 (rW r)) Tryz.f39 5 ⟨AH 10 [(2,.ref 0 0),(5,.it 1),(6,.i k)],rW s⟩:=by
 cases s with
 | s0 U=>
  replace h:VJ n k U=some r:=h;unfold VJ at h;refine ag AD [0,1] H0 (AH 10 [(2,.ref 0 0)]) [oC [.i U],none] λN=>?_
  revert r;apply gO;exact gw 8 (jt (lF λp=>rr AD [0,1] rfl p))
def ZY (n:Nat)(G:Int):Option Int:=
 (NJ n (IntKind.u64.wrap G)).bind λe=>
  (CK (ZZ n) e (.s0 0)).bind λx=>
   match x with
   | .s0 a=>
    some a
def VK (n:Nat)(G:Int):Option Int:=ZY n G
def zCZ {r:Int}(h:VK n G=some r):EQ 39 [.i G] [] (.i r) [] true:=by
 unfold VK ZY at h;refine ot Tryz.func39 λB N=>?_
 revert r;apply gO
 exact cn λe a=>jc (oq a [oC [.i 0]]) (cn λx A=>λp r h=>by
  refine gs AD [0,1] p (HI (Ac Tryz.f39) 5 []) (AH 10 [(2,.ref 0 0),(5,.it 1)]) [oC [.i 0],some (.iter ((e).map Br))] ?_;refine r0 1 5 #[6] Br 2 A (zCb n) ?_;cases x with
  | s0 Ez=>
   dsimp only at h
   revert r;apply gO;exact jt (lE AD [2] [0]))
end
section
def B4 (x:Int)(i:Nat):Θ:=(List.range' i (16-i)).filter λs=>tb x s
variable {i:Nat}{x:Int}
def iT (h:i<16):B4 x i=if tb x i then i::B4 x (i+1) else B4 x (i+1):=by
 unfold B4;rw [show 16-i=(16-(i+1))+1 by omega,zQO,zQN]
theorem zCi (h:16<=i):B4 x i= []:=by
 grind [B4]
theorem QM {s:Nat}:s∈B4 x 0↔s<16/\ tb x s=true:=by
 unfold B4
 grind
theorem zAJ (a:Int):bits .and .u64 a 1=bits .and .i64 a 1:=by
 show IntKind.u64.wrap ((BitVec.ofInt 64 a&&& BitVec.ofInt 64 1).toNat:Int)=IntKind.i64.wrap ((BitVec.ofInt 64 a&&& BitVec.ofInt 64 1).toNat:Int)
 grind [IntKind.wrap_u64,IntKind.wrap_i64]
section
variable {x:Int}
theorem rf (h:Sm 16 x){i:Nat}(h0:x/2 ^ i=0):B4 x i= []:=by
 have A:x<2 ^ i:=by
  have f:(0:Int)<2 ^ i:=Int.pow_pos Z6;have:=Int.mul_ediv_add_emod x (2 ^ i);have hm:=Int.emod_lt_of_pos x f
  grind
 unfold B4;rw [List.filter_eq_nil_iff];intro s l V;rw [List.mem_range'_1] at l;have:tb x s=false:=Sm.hi (k:=i) ⟨h.1,A⟩ l.1;rw [this] at V;cases V
theorem ou (h:Sm 16 x): ∀ (k i:Nat),i+k=16 -> Ev (λn=>Jf x n (.l1 (i:Int))) ((B4 x i).map λ(s:Nat)=>(s:Int))
 | 0,i,e=>by
  have h0:x/2 ^ i=0:=by
   grind [Sm]
  refine Ev.one λn=>?_
  show PF n (Jf x n) x (i:Int)=_
  unfold PF;rw [zAE ⟨Z2,by show (i:Int)<=((64:Nat):Int);omega⟩,u8,h0,rf h h0];rfl
 | k+1,i,e=>by
  have b:=ou h k (i+1) Z2;have r:AG ((i:Int)+1):=Aa.2 ⟨Z2,Z2⟩;have g:(0:Int)<=(i:Int)/\ (i:Int)<=(IntKind.u64.bits:Int):=⟨Z2,by show (i:Int)<=((64:Nat):Int);omega⟩
  by_cases h0:x/2 ^ i=0
  ·simp_all [Ev.one,PF,Jf,rf]
  ·have step: ∀ n,Jf x (n+1) (.l1 (i:Int))=bif tb x i then (Jf x n (.l1 ((i+1:Nat):Int))).map (λl=>(i:Int)::l) else Jf x n (.l1 ((i+1:Nat):Int)):=λn=>by
    show PF n (Jf x n) x (i:Int)=_
    unfold PF;rw [zAE g,u8,zMb.2 h0,zAG,zAC Z2,zAG,zAJ,ri h Z6 Z2,zAE r,show ((i+1:Nat):Int)=(i:Int)+1 by omega]
    grind
   rw [iT Z2];obtain ⟨N,b⟩:=b;refine ⟨N+1,λn hn=>?_⟩;obtain ⟨n,rfl⟩: ∃ k,n=k+1:=⟨n-1,Z2⟩
   grind
theorem rV {n:Nat}: ∀ (l:Ξ) (k:Nat),k+l.length<=64 -> CK (ZZ n) l (.s0 (k:Int))=some (.s0 ((k+l.length:Nat):Int))
 | [],k,_=>rfl
 | a::l,k,h=>by
  rw [zMQ] at h
  show (VJ n a (k:Int)).bind _=_
  unfold VJ;rw [zAE (Aa.2 ⟨Z2,Z2⟩),zAB,show (k:Int)+1=((k+1:Nat):Int) by omega,rV l (k+1) Z2,zMQ]
  congr 3
  omega
theorem zCh:(B4 x 0).length<=16:=by
 grind [B4]
theorem zCa (h:Sm 16 x):Ev (λn=>VK n x) ((B4 x 0).length:Int):=by
 have e:IntKind.u64.wrap x=x:=by
  grind [IntKind.wrap_u64,Sm]
 have hl:=zCh (x:=x);refine Ev.eq (Ev.bind (ou h 16 0 Z2) (b:=λn a=>(CK (ZZ n) a (.s0 0)).bind λc=>match c with | .s0 y=>some y) (Ev.now λn=>?_)) λn=>?_
 ·grind [rV,B4]
 ·show ZY n x=_
  unfold ZY;rw [e];rfl
end
end
section
set_option maxRecDepth 100000
set_option maxHeartbeats 40000000
def vg (n:Nat)(G T:Int):Option Int:= if 0<=T/\ T<=(IntKind.u64.bits:Int) then some (bits .and .u64 G (IntKind.u64.wrap (1*2 ^ (T).toNat))) else none
def b7 (n:Nat)(G T:Int):Option Int:=vg n G T
variable {T:Int}{n:Nat}
def zHu {G:Int}{r:Int}(h:b7 n G T=some r):EQ 35 [.int .u64 G,.i T] [] (.int .u64 r) [] true:=by
 refine ot Tryz.func35 λB N=>?_
 revert r;apply gO;exact gi (lE AD [4] [])
def n9 (n:Nat)(q:AA)(pos:Ξ)(cell m:Int):W6:= (Fd n q pos).bind λe=> bif (e != 0) then some (([]:Ξ),e) else bif (decide (cell<0)) then some (([]:Ξ),1) else bif (decide (cell>=q.ce)) then some (([]:Ξ),1) else bif (decide (m<0)) then some (([]:Ξ),1) else bif (decide (m>=q.sy)) then some (([]:Ξ),1) else if ((True)/\ (0=0/\ 0=([]:Ξ).length)/\ ([]:Ξ).length+pos.length<=Av)/\ (0<=cell/\ cell<((([]:Ξ).length+pos.length:Nat):Int))/\ 0+cell.toNat<(([]:Ξ)++pos).length then (b7 n (IntKind.u64.wrap ((([]:Ξ)++pos).getD (0+cell.toNat) 0)) m).bind λx=> if ([]:Ξ).length+pos.length=((([]:Ξ)++pos).set (0+cell.toNat) (IntKind.i64.wrap x)).length then (cG n ((([]:Ξ)++pos).set (0+cell.toNat) (IntKind.i64.wrap x))).bind λy3=> some (y3,0) else none else none
def fR (n:Nat)(q:AA)(pos:Ξ)(cell m:Int):W6:=n9 n q pos cell m
variable {r:Ξ×Int}{cell:Int}{pos:Ξ}{q:AA}
def zOX {m:Int}(h:fR n q pos cell m=some r):EQ 34 [.agg 5 (L1 (AE q)),.ints pos,.i cell,.i m,.fn 35 0 (L1 [])] [] (.tup 2 (L1 [.ints r.1,.i r.2])) [] true:=by
 unfold fR n9 at h;refine ot Tryz.func34 λB N=>?_
 revert r;apply gO
 exact cf MY [oC (AE q)] λe=>bi 18 (lF λp=>el AD [10,11] [] p [] H0 [.nils,.i e] (AM.tupL (l:=[.nils,.i e]) (l':=[.ints ([]:Ξ),.i e]) rfl ⟨AM.ints_nil,Ar,trivial⟩)) (bi 21 (lF λp=>el AD [10,11] [] p [] H0 [.nils,.i 1] (AM.tupL (l:=[.nils,.i 1]) (l':=[.ints ([]:Ξ),.i 1]) rfl ⟨AM.ints_nil,Ar,trivial⟩)) (bi 26 (lF λp=>el AD [10,11] [] p [] H0 [.nils,.i 1] (AM.tupL (l:=[.nils,.i 1]) (l':=[.ints ([]:Ξ),.i 1]) rfl ⟨AM.ints_nil,Ar,trivial⟩)) (bi 30 (lF λp=>el AD [10,11] [] p [] H0 [.nils,.i 1] (AM.tupL (l:=[.nils,.i 1]) (l':=[.ints ([]:Ξ),.i 1]) rfl ⟨AM.ints_nil,Ar,trivial⟩)) (bi 36 (lF λp=>el AD [10,11] [] p [] H0 [.nils,.i 1] (AM.tupL (l:=[.nils,.i 1]) (l':=[.ints ([]:Ξ),.i 1]) rfl ⟨AM.ints_nil,Ar,trivial⟩)) (gc (gi (gc (gn λa=>jg a (gn λb=>jg b (cf zHu [oC (AE q),none,oI (([]:Ξ)++pos)] λx=>jg a (jg b (gn λR=>λp r h=>by
  refine gz (AJ 8 AD) [2] p [0] (H0.g R) (Dr (Ac Tryz.f34) 8 []) (AH 55 [(13,.ints ((([]:Ξ)++pos).set (0+cell.toNat) (IntKind.i64.wrap x)))]) [none] ?_;revert r;apply gO;exact cf zH8 [none] λ_=>lE AD [10,11] []))))))))))))
def nW (n:Nat)(q:AA)(pos:Ξ)(cell T:Int):W6:= (fR n q pos cell T).bind λe=> some (e.1,e.2)
def UA (n:Nat)(q:AA)(pos:Ξ)(cell T:Int):W6:=nW n q pos cell T
def zMy (h:UA n q pos cell T=some r):EQ 22 [.agg 5 (L1 (AE q)),.ints pos,.i cell,.i T] [] (.tup 2 (L1 [.ints r.1,.i r.2])) [] true:=by
 unfold UA nW at h;refine ot Tryz.func22 λB N=>?_
 revert r;apply gO;exact cf zOX [oC (AE q)] λ_=>lE AD [8,9] []
def zKc (n:Nat)(e o1:Ξ):DH:=[oC [.msl 4 1 0 n],oC [.bool false],oC [.i 0],some (.iter ((e).map Br)),oI o1]
def zKb (e:Nat)(n:Int)(l:Ξ):DH:=[oC [.msl 4 1 0 e],oC [.bool false],oC [.i n],none,oI l]
def zKa (f:Nat)(o:Int)(m:Ξ):DH:=[oC [.msl 4 1 0 f],oC [.bool false],oC [.i o],none,oI m]
inductive MF where
 | s0 (J9:Nat) (DT:Int) (H2:Ξ)
 | s1 (DS:Int)
def rK (pos:Ξ)(x10:Int):MF -> DH
 | .s0 f o m=>[oC [.msl 4 1 0 f],oC [.bool false],oC [.i o],none,oI m]
 | .s1 n=>[oC [.nils],oC [.bool false],oC [.i n],none]
def VD (n:Nat)(pos:Ξ)(x10 f:Int)(a:Nat)(o:Int)(m:Ξ):Option (MF×Nat):= if AG (o+1) then bif (decide ((o+1)>1)) then some (.s1 (o+1),1) else bif (decide (f>=16)) then some (.s1 (o+1),1) else if (0=0/\ 1=([f]:Ξ).length)/\ (0=0/\ a=m.length)/\ m.length+([f]:Ξ).length<=Av then some (.s0 (m.length+([f]:Ξ).length) (o+1) (m++([f]:Ξ)),0) else none else none
def iI (n:Nat)(pos:Ξ)(x10 f:Int)(a:Int):Option (MF×Nat):= if AG (a+1) then bif (decide ((a+1)>1)) then some (.s1 (a+1),1) else bif (decide (f>=16)) then some (.s1 (a+1),1) else if (0=0/\ 1=([f]:Ξ).length)/\ 0<([f]:Ξ).length/\ ([f]:Ξ).length<=Av then some (.s0 (([f]:Ξ).length) (a+1) ([f]:Ξ),0) else none else none
def zCN (n:Nat)(pos:Ξ)(x10 f:Int):MF -> Option (MF×Nat)
 | .s0 a o m=>VD n pos x10 f a o m
 | .s1 b=>iI n pos x10 f b
def VE (n:Nat)(pos:Ξ)(x10 f:Int)(s:MF):Option (MF×Nat):=zCN n pos x10 f s
def zCM (n:Nat)(pos:Ξ)(x10:Int)(l B:Nat)(N:Yd 4)(f:Int)(s:MF)(r:MF×Nat)(h:VE n pos x10 f s=some r):TA l B N (Cx 4 [.ret] r.2 (rK pos x10 r.1)) Tryz.f54 16 ⟨AH 34 [(2,.ref 0 0),(3,.ref 1 0),(6,.ref 2 0),(8,.ints pos),(9,.i (pos.length:Int)),(10,.i x10),(16,.it 3),(17,.i f)],rK pos x10 s⟩:=by
 cases s with
 | s0 a o m=>
  replace h:VD n pos x10 f a o m=some r:=h;unfold VD at h;refine ag AD [0,1,2,3,4] H0 (AH 34 [(2,.ref 0 0),(3,.ref 1 0),(6,.ref 2 0),(7,.i f)]) (zKa a o m) λN=>?_
  revert r;apply gO;exact gw 19 (jt (bi 21 (jt (jt (lF λp=>rr AD [0,1,2,3] rfl p))) (bi 24 (jt (jt (lF λp=>rr AD [0,1,2,3] rfl p))) (gi (jt (lF λp=>rr AD [0,1,2,3,6] rfl p))))))
 | s1 b=>
  replace h:iI n pos x10 f b=some r:=h;unfold iI at h;refine ag AD [0,1,2,3] H0 (AH 34 [(2,.ref 0 0),(3,.ref 1 0),(6,.ref 2 0),(7,.i f)]) [oC [.nils],oC [.bool false],oC [.i b],none] λN=>?_
  revert r;apply gO;exact gw 19 (jt (bi 21 (jt (jt (lF λp=>rr AD [0,1,2,3] rfl p))) (bi 24 (jt (jt (lF λp=>rr AD [0,1,2,3] rfl p))) (gi (jt (lF λp=>rr AD [0,1,2,3,5] rfl p))))))
inductive MG where
 | s0 (DT:Int)
 | s1 (J8:Nat) (DS:Int) (Hz:Ξ)
def rJ (pos:Ξ)(x10:Int):MG -> DH
 | .s0 o=>[oC [.nils],oC [.bool false],oC [.i o],none]
 | .s1 e n l=>[oC [.msl 4 1 0 e],oC [.bool false],oC [.i n],none,oI l]
def VC (n:Nat)(pos:Ξ)(x10 f:Int)(o:Int):Option (MG×Nat):= if AG (o+1) then bif (decide ((o+1)>1)) then some (.s0 (o+1),1) else bif (decide (f>=16)) then some (.s0 (o+1),1) else if (0=0/\ 1=([f]:Ξ).length)/\ 0<([f]:Ξ).length/\ ([f]:Ξ).length<=Av then some (.s1 (([f]:Ξ).length) (o+1) ([f]:Ξ),0) else none else none
def iH (n:Nat)(pos:Ξ)(x10 f:Int)(e:Nat)(a:Int)(l:Ξ):Option (MG×Nat):= if AG (a+1) then bif (decide ((a+1)>1)) then some (.s0 (a+1),1) else bif (decide (f>=16)) then some (.s0 (a+1),1) else if (0=0/\ 1=([f]:Ξ).length)/\ (0=0/\ e=l.length)/\ l.length+([f]:Ξ).length<=Av then some (.s1 (l.length+([f]:Ξ).length) (a+1) (l++([f]:Ξ)),0) else none else none
def zCL (n:Nat)(pos:Ξ)(x10 f:Int):MG -> Option (MG×Nat)
 | .s0 o=>VC n pos x10 f o
 | .s1 e a l=>iH n pos x10 f e a l
def VF (n:Nat)(pos:Ξ)(x10 f:Int)(s:MG):Option (MG×Nat):=zCL n pos x10 f s
def zCK (n:Nat)(pos:Ξ)(x10:Int)(l B:Nat)(N:Yd 4)(f:Int)(s:MG)(r:MG×Nat)(h:VF n pos x10 f s=some r):TA l B N (Cx 4 [.ret] r.2 (rJ pos x10 r.1)) Tryz.f54 16 ⟨AH 34 [(2,.ref 0 0),(3,.ref 1 0),(6,.ref 2 0),(8,.ints pos),(9,.i (pos.length:Int)),(10,.i x10),(16,.it 3),(17,.i f)],rJ pos x10 s⟩:=by
 cases s with
 | s0 o=>
  replace h:VC n pos x10 f o=some r:=h;unfold VC at h;refine ag AD [0,1,2,3] H0 (AH 34 [(2,.ref 0 0),(3,.ref 1 0),(6,.ref 2 0),(7,.i f)]) [oC [.nils],oC [.bool false],oC [.i o],none] λN=>?_
  revert r;apply gO;exact gw 19 (jt (bi 21 (jt (jt (lF λp=>rr AD [0,1,2,3] rfl p))) (bi 24 (jt (jt (lF λp=>rr AD [0,1,2,3] rfl p))) (gi (jt (lF λp=>rr AD [0,1,2,3,5] rfl p))))))
 | s1 e a b=>
  replace h:iH n pos x10 f e a b=some r:=h;unfold iH at h;refine ag AD [0,1,2,3,4] H0 (AH 34 [(2,.ref 0 0),(3,.ref 1 0),(6,.ref 2 0),(7,.i f)]) (zKb e a b) λN=>?_
  revert r;apply gO;exact gw 19 (jt (bi 21 (jt (jt (lF λp=>rr AD [0,1,2,3] rfl p))) (bi 24 (jt (jt (lF λp=>rr AD [0,1,2,3] rfl p))) (gi (jt (lF λp=>rr AD [0,1,2,3,6] rfl p))))))
inductive VG where
 | l1 (x10:Int)
 | l2 (x10:Int) (Ce:Nat) (o1:Ξ)
def SK (n:Nat)(self:VG -> W5)(pos:Ξ)(x10:Int):W5:=
 bif (decide (x10<(pos.length:Int))) then
  if 0<=x10/\ x10<(pos.length:Int) then
   (NJ n (IntKind.u64.wrap (pos.getD x10.toNat 0))).bind λe=>
    (CY (VF n pos x10) e (.s0 0)).bind λx=>
     bif x.2==0 then
      match x.1 with
      | .s0 a=>
       bif (a==0) then
        some (([]:Ξ),false)
       else
        if AG (x10+1) then
         self (.l1 (x10+1))
        else none
      | .s1 g H J=>
       bif (H==0) then
        some (([]:Ξ),false)
       else
        if AG (x10+1) then
         self (.l2 (x10+1) g J)
        else none
     else
      bif x.2==1 then
       match x.1 with
       | .s0 a=>
        some (([]:Ξ),false)
       | .s1 g H J=>
        if g=J.length then
         some (J,false)
        else none
      else
       none
  else none
 else
  some (([]:Ξ),true)
def SJ (n:Nat)(self:VG -> W5)(pos:Ξ)(x10:Int)(b:Nat)(o1:Ξ):W5:=
 bif (decide (x10<(pos.length:Int))) then
  if 0<=x10/\ x10<(pos.length:Int) then
   (NJ n (IntKind.u64.wrap (pos.getD x10.toNat 0))).bind λe=>
    (CY (VE n pos x10) e (.s0 b 0 o1)).bind λx=>
     bif x.2==0 then
      match x.1 with
      | .s0 a I K=>
       bif (I==0) then
        some (([]:Ξ),false)
       else
        if AG (x10+1) then
         self (.l2 (x10+1) a K)
        else none
      | .s1 g=>
       bif (g==0) then
        some (([]:Ξ),false)
       else
        if AG (x10+1) then
         self (.l1 (x10+1))
        else none
     else
      bif x.2==1 then
       match x.1 with
       | .s0 a I K=>
        if a=K.length then
         some (K,false)
        else none
       | .s1 g=>
        some (([]:Ξ),false)
      else
       none
  else none
 else
  if b=o1.length then
   some (o1,true)
  else none
def zCJ (n:Nat)(self:VG -> W5)(pos:Ξ):W5:= self (.l1 0)
def HO (pos:Ξ):Nat -> VG -> W5
 | 0,_=>none
 | n+1,.l1 x10=>SK n (HO pos n) pos x10
 | n+1,.l2 x10 a o1=>SJ n (HO pos n) pos x10 a o1
def ZV (n:Nat)(pos:Ξ):W5:=zCJ n (HO pos n) pos
def zCO (n B:Nat)(N:Yd 0)(pos:Ξ)(r:Ξ×Bool):VG -> Prop:=px n B Fence.wide N (FQ Tryz.f54 0 (.tup 2 (L1 [.ints r.1,.bool r.2])) []) (Ac Tryz.f54) λ
 | .l1 x10=>(0,0,AH 34 [(2,.ref 0 0),(3,.ref 1 0),(8,.ints pos),(9,.i (pos.length:Int)),(10,.i x10)],[oC [.nils],oC [.bool false]])
 | .l2 x10 a o1=>(0,0,AH 34 [(2,.ref 0 0),(3,.ref 2 0),(8,.ints pos),(9,.i (pos.length:Int)),(10,.i x10)],[oC [.msl 1 1 0 a],oI o1,oC [.bool false]])
def zCP (B:Nat)(N:Yd 0)(pos:Ξ):Al (HO pos) (zCO · B N pos):=ia (λ_=>rfl) λn w j r h=>by
 cases j
 case l1 x10=>
  intro m k;refine rd k λm k=>?_
  revert r;apply gO
  exact bi 11 (gi (jt (cn λa b=>jc (oq b [oC [.nils],oC [.bool false],oC [.i 0]]) (cn λx A=>λp r h=>by
   refine gs AD [0,1,2,3] p (HI (Ac Tryz.f54) 16 [m]) (AH 34 [(2,.ref 0 0),(3,.ref 1 0),(6,.ref 2 0),(8,.ints pos),(9,.i (pos.length:Int)),(10,.i x10),(16,.it 3)]) [oC [.nils],oC [.bool false],oC [.i 0],some (.iter ((a).map Br))] ?_;refine rx [.ret] 3 16 #[17] Br 4 A (zCK n pos x10) λe M=>?_
   replace h:=DN h;rcases h with ⟨C,h⟩ | ⟨C,h⟩
   ·rw [zLx C] at M;cases M;revert h;cases x.1 with
    | s0 c=>
     intro h
     dsimp only at h
     revert r;apply gO;exact bi 31 (jt (jt (lF λp=>el AD [2,3] [0,1] p [] H0 [.nils,.bool false] (AM.tupL (l:=[.nils,.bool false]) (l':=[.ints ([]:Ξ),.bool false]) rfl ⟨AM.ints_nil,Ar,trivial⟩)))) (gw 32 (lG AD [0,1] (w _ _ · m k)))
    | s1 d H J=>
     intro h
     dsimp only at h
     revert r;apply gO;exact bi 31 (jt (jt (lF λp=>el AD [2,3] [0,1] p [] H0 [.nils,.bool false] (AM.tupL (l:=[.nils,.bool false]) (l':=[.ints ([]:Ξ),.bool false]) rfl ⟨AM.ints_nil,Ar,trivial⟩)))) (gw 32 (lG AD [0,4,1] (w _ _ · m k)))
   ·replace h:=DN h;rcases h with ⟨C,h⟩ | ⟨C,h⟩
    ·rw [zLx C] at M;cases M;refine Nx ⟨rfl,?_⟩ _;revert h;cases x.1 with
     | s0 c=>
      intro h
      dsimp only at h
      revert r;apply gT;exact lF λ_=>Cp.el (.inr rfl) [] H0 [.nils,.bool false] (AM.tupL (l:=[.nils,.bool false]) (l':=[.ints ([]:Ξ),.bool false]) rfl ⟨AM.ints_nil,Ar,trivial⟩) Z5
     | s1 d H J=>
      intro h
      dsimp only at h
      revert r;apply gT;exact gn λf=>lF λ_=>Cp.e (.inr rfl) [4] (H0.g f) Z5
    ·cases h)))) (jt (jt (lF λp=>el AD [2,3] [0,1] p [] H0 [.nils,.bool true] (AM.tupL (l:=[.nils,.bool true]) (l':=[.ints ([]:Ξ),.bool true]) rfl ⟨AM.ints_nil,Ar,trivial⟩))))
 case l2 x10 Ce o1=>
  intro m k;refine rd k λm k=>?_
  revert r;apply gO
  exact bi 11 (gi (jt (cn λa b=>jc (oq b [oC [.msl 1 1 0 Ce],oI o1,oC [.bool false],oC [.i 0]]) (cn λx A=>λp r h=>by
   refine gs AD [0,2,3,4,1] p (HI (Ac Tryz.f54) 16 [m]) (AH 34 [(2,.ref 0 0),(3,.ref 1 0),(6,.ref 2 0),(8,.ints pos),(9,.i (pos.length:Int)),(10,.i x10),(16,.it 3)]) (zKc Ce a o1) ?_;refine rx [.ret] 3 16 #[17] Br 4 A (zCM n pos x10) λe M=>?_
   replace h:=DN h;rcases h with ⟨C,h⟩ | ⟨C,h⟩
   ·rw [zLx C] at M;cases M;revert h;cases x.1 with
    | s0 c I K=>
     intro h
     dsimp only at h
     revert r;apply gO;exact bi 31 (jt (jt (lF λp=>el AD [2,3] [0,1] p [] H0 [.nils,.bool false] (AM.tupL (l:=[.nils,.bool false]) (l':=[.ints ([]:Ξ),.bool false]) rfl ⟨AM.ints_nil,Ar,trivial⟩)))) (gw 32 (lG AD [0,4,1] (w _ _ · m k)))
    | s1 d=>
     intro h
     dsimp only at h
     revert r;apply gO;exact bi 31 (jt (jt (lF λp=>el AD [2,3] [0,1] p [] H0 [.nils,.bool false] (AM.tupL (l:=[.nils,.bool false]) (l':=[.ints ([]:Ξ),.bool false]) rfl ⟨AM.ints_nil,Ar,trivial⟩)))) (gw 32 (lG AD [0,1] (w _ _ · m k)))
   ·replace h:=DN h;rcases h with ⟨C,h⟩ | ⟨C,h⟩
    ·rw [zLx C] at M;cases M;refine Nx ⟨rfl,?_⟩ _;revert h;cases x.1 with
     | s0 c I K=>
      intro h
      dsimp only at h
      revert r;apply gT;exact gn λf=>lF λ_=>Cp.e (.inr rfl) [4] (H0.g f) Z5
     | s1 d=>
      intro h
      dsimp only at h
      revert r;apply gT;exact lF λ_=>Cp.el (.inr rfl) [] H0 [.nils,.bool false] (AM.tupL (l:=[.nils,.bool false]) (l':=[.ints ([]:Ξ),.bool false]) rfl ⟨AM.ints_nil,Ar,trivial⟩) Z5
    ·cases h)))) (jt (jt (gn λW=>lF λp=>ez AD [2,3] [0,1,2] p [1] (H0.g W))))
def zCI {r:Ξ×Bool}(h:ZV n pos=some r):EQ 54 [.ints pos] [] (.tup 2 (L1 [.ints r.1,.bool r.2])) [] true:=by
 refine ot Tryz.func54 λB N=>?_
 revert r;apply gO;exact lN AD [0,1] ((zCP B N pos n) _ _ · n Nat.le.refl)
end
section
variable {q:AA} {pos:Ξ}
theorem j7 (x:Int):BitVec.ofInt 64 (IntKind.u64.wrap x)=BitVec.ofInt 64 x:=by
 grind [BitVec.toNat_ofInt,IntKind.wrap_u64]
variable {s:Nat}
theorem qR (a:Int)(hs:s<63)(t:Nat):tb (IntKind.i64.wrap (bits .and .u64 (IntKind.u64.wrap a) (IntKind.u64.wrap (1*2 ^ s)))) t=(tb a t&&decide (s=t)):=by
 rw [gv]
 have e:tb (bits .and .u64 (IntKind.u64.wrap a) (IntKind.u64.wrap (1*2 ^ s))) t=(BitVec.ofInt 64 (IntKind.u64.wrap a)&&& BitVec.ofInt 64 (IntKind.u64.wrap (1*2 ^ s))).getLsbD t:=by
  show (BitVec.ofInt 64 (IntKind.u64.wrap ((BitVec.ofInt 64 (IntKind.u64.wrap a)&&& BitVec.ofInt 64 (IntKind.u64.wrap (1*2 ^ s))).toNat:Int))).getLsbD t=_
  grind [j7]
 rw [e,j7,j7,BitVec.getLsbD_and];have h2:=Jq (show s<64 by omega) t
 grind [gv,tb]
def Lt (y:Ξ)(j s:Nat):Ξ:=y.set j (IntKind.i64.wrap (bits .and .u64 (IntKind.u64.wrap (y.getD j 0)) (IntKind.u64.wrap (1*2 ^ s))))
def II (y:Ξ)(j s:Nat):Ξ:=if BJ (Lt y j s) then List.replicate y.length 0 else Lt y j s
variable {j:Nat}{y:Ξ}
theorem yg (a:C4 q=true)(hy:posOk q y=true)(i:j<y.length)(hs:s<q.sy.toNat):(Lt y j s).length=y.length/\ ∀ l,l<y.length -> Bt ((Lt y j s).getD l 0)/\ ∀ t,tb ((Lt y j s).getD l 0) t=(tb (y.getD l 0) t&&(!decide (l=j)||decide (t=s))):=by
 obtain ⟨h1,b⟩:=(P5 a).1 hy;obtain ⟨hc,KN,_⟩:=Dl a;unfold Lt;refine ⟨zJy,λl o=>?_⟩
 by_cases e:j=l
 ·subst e;rw [T5 i];refine ⟨Yv _,λt=>?_⟩;rw [qR _ Z2,zAC rfl,zLa,zNg]
  grind
 ·rw [getD_set_ne e];refine ⟨(b l o).in64 Z2,λt=>?_⟩
  grind
theorem pL (hv:C4 q=true)(hy:posOk q y=true):posOk q (List.replicate y.length 0)=true:=by
 simp_all [Int.pow_pos,posOk]
def zMs (a:C4 q=true)(hy:posOk q y=true)(i:j<y.length)(b:s<q.sy.toNat):posOk q (II y j s)=true:=by
 obtain ⟨c,d⟩:=(P5 a).1 hy;obtain ⟨hc,KN,_⟩:=Dl a;obtain ⟨e,Y⟩:=yg a hy i b;unfold II;split
 ·exact pL a hy
 ·refine (P5 a).2 ⟨by rw [e];exact c,λl hl=>?_⟩;obtain ⟨B,F⟩:=Y l Z2;refine VI Z2 B λt V _=>?_
  rw [F,(d l Z2).hi V];rfl
variable {n:Nat}
theorem zMx (hF:Cm q)(a:C4 q=true)(hy:posOk q y=true)(i:j<y.length)(hs:s<q.sy.toNat)(hn:EU q+300<=n):UA n q y j s=some (II y j s,0):=by
 obtain ⟨h1,h2⟩:=(P5 a).1 hy;obtain ⟨hc,KN,_⟩:=Dl a;have L:(1000000000000:Nat)=Av:=rfl;have lb:(256:Nat)<=LB:=Z6
 have sy:((q.sy.toNat:Nat):Int)=q.sy:=Z2
 have c:Fd n q y=some 0:=by
  grind [jk,CB]
 unfold UA nW fR n9;rw [c,zAB];simp only [zLn,zJv,u8,List.length_nil];rw [zAF Z2,zAF Z2,zAF Z2,zAF Z2];simp only [bne_self_eq_false,zAz];rw [zAE ⟨⟨trivial,⟨trivial,trivial⟩,Z2⟩,⟨Z2,Z2⟩,i⟩]
 have X:b7 n (IntKind.u64.wrap (y.getD j 0)) s=some (bits .and .u64 (IntKind.u64.wrap (y.getD j 0)) (IntKind.u64.wrap (1*2 ^ s))):=by
  unfold b7 vg;rw [zAE ⟨Z2,by show (s:Int)<=((64:Nat):Int);omega⟩,u8]
 rw [X,zAB,zAE (by rw [zJy])]
 grind [cG,Lt,II,kD,zc]
def Cq:Ξ -> Option Ξ
 | []=>some []
 | x::l=>match B4 x 0 with
  | [s]=>(Cq l).map λr=>(s:Int)::r
  | _=>none
def rT: ∀ {p g:Ξ},Cq p=some g -> g.length=p.length
 | [],g,h=>by cases h;rfl
 | x::p,g,h=>by
  unfold Cq at h;split at h
  ·obtain ⟨r,j,rfl⟩:=zLX.1 h;rw [zMQ,zMQ,rT j]
  ·cases h
variable {x10:Int}
theorem zCX : ∀ (l:Θ),(∀ s∈l,s<16) -> CY (VF n pos x10) (l.map λ(s:Nat)=>(s:Int)) (.s0 0)=some (match l with | []=>(.s0 0,0) | [s]=>(.s1 1 1 [(s:Int)],0) | _=>(.s0 2,1))
 | [],_=>rfl
 | s::l,h=>by
  have hs:=h s Z3
  have B:VF n pos x10 (s:Int) (.s0 0)=some (.s1 1 1 [(s:Int)],0):=by
   show VC n pos x10 (s:Int) 0=_
   unfold VC;rw [zAE Z6,zAF Z2,zAz,zAF Z2,zAz,zAE ⟨⟨rfl,rfl⟩,Z3,by simp [Av]⟩];rfl
  rw [zMS];simp only [CY,B,zAB];cases l with
  | nil=>rfl
  | cons t l=>
   have e2:VF n pos x10 (t:Int) (.s1 1 1 [(s:Int)])=some (.s0 2,1):=by
    rfl
   grind [CY]
theorem zCW {m:Nat}{o:Ξ}(y:m=o.length)(hl:o.length<=300): ∀ (l:Θ),(∀ s∈l,s<16) -> CY (VE n pos x10) (l.map λ(s:Nat)=>(s:Int)) (.s0 m 0 o)=some (match l with | []=>(.s0 m 0 o,0) | [s]=>(.s0 (m+1) 1 (o++[(s:Int)]),0) | _=>(.s1 2,1))
 | [],_=>rfl
 | s::l,h=>by
  have hs:=h s Z3;have L:(1000000000000:Nat)=Av:=rfl
  have B:VE n pos x10 (s:Int) (.s0 m 0 o)=some (.s0 (m+1) 1 (o++[(s:Int)]),0):=by
   show VD n pos x10 (s:Int) m 0 o=_
   unfold VD;rw [zAE Z6,zAF Z2,zAz,zAF Z2,zAz,zAE ⟨⟨rfl,rfl⟩,⟨rfl,y⟩,Z7⟩,y];rfl
  rw [zMS];simp only [CY,B,zAB];cases l with
  | nil=>rfl
  | cons t l=>
   have e2:VE n pos x10 (t:Int) (.s0 (m+1) 1 (o++[(s:Int)]))=some (.s1 2,1):=by
    rfl
   grind [CY]
def EV (o:Ξ):Option Ξ -> Ξ×Bool
 | some r=>(o++r,true)
 | none=>([],false)
variable {x:Int}
theorem zAl (h:Sm 16 x):Ev (λn=>NJ n (IntKind.u64.wrap x)) ((B4 x 0).map λ(s:Nat)=>(s:Int)):=by
 have e:IntKind.u64.wrap x=x:=by
  show x % 18446744073709551616=x
  grind [Sm]
 rw [e];exact ou h 16 0 Z2
def Zc (h:s∈B4 x 0):s<16:=(QM.1 h).1
theorem rM (f: ∀ j,j<pos.length -> Sm 16 (pos.getD j 0))(b:pos.length<=256): ∀ (k j:Nat) (o:Ξ),j+k=pos.length -> o.length<=256 -> o.length+k<=256 -> Ev (λn=>HO pos n (.l2 (j:Int) o.length o)) (EV o (Cq (pos.drop j)))
 | 0,j,o,e,y,_=>by
  simp_all [Ev.one,SJ,HO,Cq,EV]
 | k+1,j,o,e,y,hk=>by
  have i:j<pos.length:=Z2
  have v:pos.drop j=pos.getD j 0::pos.drop (j+1):=by
   simp_all
  have E:=zAl (f j i);have lb:AG ((j:Int)+1):=Aa.2 ⟨Z2,Z2⟩;have c:=λs:Nat=>rM f b k (j+1) (o++[(s:Int)]) Z2 Z7 Z7
  have start: ∀ n,HO pos (n+1) (.l2 (j:Int) o.length o)=SJ n (HO pos n) pos (j:Int) o.length o:=λ_=>rfl
  obtain ⟨N,W⟩:=E;have W: ∀ n,N<=n -> NJ n (IntKind.u64.wrap (pos.getD j 0))=some ((B4 (pos.getD j 0) 0).map λ(s:Nat)=>(s:Int)):=W;have hf:=λn=>zCW (n:=n) (pos:=pos) (x10:=(j:Int)) (o:=o) rfl Z2 (B4 (pos.getD j 0) 0) λs a=>Zc a
  rw [v,Cq];cases a:B4 (pos.getD j 0) 0 with
  | nil=>
   refine Ev.oneN N λn u=>?_
   rw [start];unfold SJ
   simp_all [EV]
  | cons s l=>
   cases l with
   | nil=>
    have g:AV (HO pos) (.l2 (j:Int) o.length o) (.l2 ((j+1:Nat):Int) (o++[(s:Int)]).length (o++[(s:Int)])):=AV.oneN N λn u=>by
     simp_all [SJ]
    have:=g.ev (c s);cases d:Cq (pos.drop (j+1)) with
    | none=>rw [d] at this;exact this
    | some r=>grind [EV]
   | cons t l=>
    refine Ev.oneN N λn u=>?_
    simp_all [SJ,EV]
theorem zCU (f: ∀ j,j<pos.length -> Sm 16 (pos.getD j 0))(o:pos.length<=256):Ev (λn=>ZV n pos) (EV [] (Cq pos)):=by
 cases pos with
 | nil=>
  refine Ev.eq (g:=λn=>HO [] n (.l1 0)) (Ev.one λn=>?_) λn=>rfl
  grind [SK,HO,EV,Cq]
 | cons x p=>
  have d:=f 0 Z3;obtain ⟨N,W⟩:=zAl d;have W: ∀ n,N<=n -> NJ n (IntKind.u64.wrap x)=some ((B4 x 0).map λ(s:Nat)=>(s:Int)):=W;have O:=λn=>zCX (n:=n) (pos:=x::p) (x10:=0) (B4 x 0) λs a=>Zc a
  refine Ev.eq (g:=λn=>HO (x::p) n (.l1 0)) ?_ λn=>rfl
  have start: ∀ n,HO (x::p) (n+1) (.l1 0)=SK n (HO (x::p) n) (x::p) 0:=λ_=>rfl
  have v:decide ((0:Int)<(((x::p).length:Nat):Int))=true:=zAC Z3;have H:(x::p).getD (0:Int).toNat 0=x:=rfl;rw [Cq];cases a:B4 x 0 with
  | nil=>
   refine Ev.oneN N λn u=>?_
   rw [start];unfold SK
   simp_all [EV]
  | cons s l=>
   cases l with
   | nil=>
    have g:AV (HO (x::p)) (.l1 0) (.l2 ((1:Nat):Int) [(s:Int)].length [(s:Int)]):=AV.oneN N λn u=>by
     rw [start];unfold SK;rw [v,zAG,zAE ⟨Z2,Z3⟩,H,W n u,zAB,O n,a];rfl
    have:=g.ev (rM f o p.length 1 [(s:Int)] Z7 Z3 (by simp at o ⊢;omega));simp only [List.drop_one,List.tail_cons] at this;cases b:Cq p with
    | none=>rw [b] at this;exact this
    | some r=>grind [EV]
   | cons t l=>
    refine Ev.oneN N λn u=>?_
    simp_all [SK,EV]
end
def pan (v:Value):List PanicEntry:=[{ v:=v,recovered:=false }]
section
variable {P:Program} {Γ:Ay}
def MT (K:Nat)(h:DH)(ρ:List AK)(b:Nat):Prop:=∃ k o p,K<=k/\ h[k]? =some (some o)/\ ρ[k]? =some p/\ p.foot b
variable {ρ:List AK}{h:DH}
theorem MO.split (K:Nat)(b:Nat):MO h ρ b↔MO (h.take K) (ρ.take K) b∨MT K h ρ b:=by
 constructor
 ·rintro ⟨k,o,p,h1,h2,a⟩;rcases zKL k K with hk | hk
  ·exact .inl ⟨k,o,p,Z4,Z4,a⟩
  grind [MT]
 grind [MO,MT]
def UO (K:Nat):Option DO -> Bool
 | some (.cells l)=>l.all (CP K)
 | some (.ro l)=>l.all (CP K)
 | _=>true
variable {w:World}
theorem As.take {N:Ψ}(H:As P Γ N h ρ w){K:Nat}(hK:K<=h.length)(v:(h.take K).all (UO K)=true):As P Γ (λb=>N b∨MT K h ρ b) (h.take K) (ρ.take K) w/\ ∀ b,MS (λb=>N b∨MT K h ρ b) (h.take K) (ρ.take K) b↔MS N h ρ b:=by
 have Y: ∀ b,MS (λb=>N b∨MT K h ρ b) (h.take K) (ρ.take K) b↔MS N h ρ b:=λb=>by
  grind [MO.split,MS]
 have A: ∀ {α:Type} {l:List α} {k:Nat} {x:α},(l.take K)[k]? =some x -> k<K/\ l[k]? =some x:=λ{α l k x} hx=>by
  grind
 refine ⟨⟨by simp [H.len],λk o hk=>?_,λk o p b I B C=>?_,λi Q o o' p p' b J L M R U O S=>H.dis i Q o o' p p' b J (A L).2 (A M).2 (A R).2 (A U).2 O S,λb a=>?_,H.gi⟩,Y⟩
 ·obtain ⟨T,V⟩:=A hk;obtain ⟨p,hp,y⟩:=H.obj k o V;refine ⟨p,Z4,?_⟩;have e:MS (λb=>N b∨MT K h ρ b) (h.take K) (ρ.take K)=MS N h ρ:=funext λb=>propext (Y b)
  rw [e];cases o with
  | cells l=>
   have G:l.all (CP K)=true:=zBk.1 v _ (zJ1 hk);exact AY.out y rfl λj u W d=>AI.take _ (zBk.1 G _ Z4) d
  | ints l=>exact y
  | bools l=>exact y
  | arr m n f=>exact y
  | gro m n f=>exact y
  | iter encs=>exact y
  | ro l=>
   obtain ⟨X,Z,r3⟩:=y;have G:l.all (CP K)=true:=zBk.1 v _ (zJ1 hk);exact ⟨X,Z,AY.out r3 rfl λj u W d=>AI.take _ (zBk.1 G _ Z4) d⟩
  | mo x=>exact y
 ·obtain ⟨T,D⟩:=A I;obtain ⟨E,c2,F⟩:=H.cel k o p b D (A B).2 C;refine ⟨E,?_,F⟩;rintro (hn | ⟨g,o',p',q1,s,q,r⟩)
  ·exact c2 hn
  ·exact H.dis k g o o' p p' b Z2 D s (A B).2 q C r
 ·rcases a with a | ⟨g,o',p',q1,s,q,r⟩
  ·exact H.nlt b a
  ·obtain ⟨E,_,c,t,z,F⟩:=H.cel g o' p' b s q r
   grind
def NI (fr:List DV):List DV:=fr.map λ_=>.any
theorem zAi {M:Ψ}{fr:List DV}{t:Array Value}(h:fr.length=t.size):BB M w ρ (NI fr) t:=⟨by simp [NI,h],λj hj=>by
 grind [NI,AI]⟩
def PO {L:Nat}(Q:QY P Γ L):Exit -> Act -> World -> Prop
 | .panic c,a,w=>∃ fr h ρ N Y,Q (.panic c) ⟨NI fr,h⟩ Y/\ fr.length=a.tmps.size/\ As P Γ N h ρ w/\ Y.I N h ρ w/\ a.defers= []
 | e,a,w=>∃ S ρ N Y,QE Q e S Y/\ AU P Γ N S ρ a w/\ Y.I N S.h ρ w/\ Jk none a.defers w/\ Bd Fence.wide none w
def PO.le {L:Nat}{Q:QY P Γ L}{e:Exit}{a:Act}(h:PO Q e a w): ∃ S ρ N Y,QE Q e S Y/\ AU P Γ N S ρ a w/\ Y.I N S.h ρ w/\ Jk none a.defers w/\ Bd Fence.wide none w:=by
 cases e with
 | panic c=>
  obtain ⟨fr,h,ρ,N,Y,b,d,f,A,g⟩:=h;exact ⟨⟨NI fr,h⟩,ρ,N,Y,b,⟨f,zAi d⟩,A,g,Bd.none⟩
 | _=>exact h
def Di (P:Program)(Γ:Ay){L:Nat}(Y:BK P Γ L)(ops:Array Oper)(l:Θ)(S:St)(Q:QY P Γ L):Prop:= ∀ N ρ a w,AU P Γ N S ρ a w -> Y.I N S.h ρ w -> a.defers= [] -> wpListIn Fence.wide 0 P ops (PO Q) (CM ops l) a w
variable {ops:Array Oper}
theorem TD : ∀ (l l':Θ),CM ops (l++l')=CM ops l++CM ops l'
 | [],_=>rfl
 | i::l,l'=>by
  simp only [zQM,CM];split
  ·rw [TD l l'];rfl
  ·exact TD l l'
theorem u5 :CM ops (List.range ops.size)=ops.toList:=by
 have go: ∀ (k:Nat),k<=ops.size -> CM ops (List.range k)=ops.toList.take k:=by
  intro k
  induction k with
  | zero=>intro _;rfl
  | succ k ih=>
   grind [List.range_succ,TD,List.take_add_one,CM]
 simp_all [List.take_of_length_le]
section
variable {L:Nat} {C:Dt P} {i:Nat} {ρ0:List AK} {Q:QY P Γ L} {ops:Array Oper} {S:St} {An:BS} {vs:List Prop}
variable {Y:BK P Γ L}
def Di.done {l:Θ}{S':St}{B:BS}(b:Du Fence.wide P)(u:Ct ops=true)(h:EL P Γ ops (CM ops l) S An=some (S',vs,B))(s:BX vs)(hk:Q .normal S' Y):Di P Γ Y ops l S Q:=λN ρ a w R y m=>
 Lp b u _ (P8 l) R h s λρ' a' w' R' st G=>Tr.done R y m Bd.none hk R' st.st (λk p _ f=>st.pl k p f) G
theorem Tr.ofO {id:Nat}(h:Di P Γ Y ops (List.range ops.size) S Q):Tr P Γ Fence.wide none L Y (.region id ops false) S Q:=λN ρ a w R y m _=>zMY (zL4 (by
 grind [u5,Di,Jk])) λ_ _ _=>PO.le
def YD (P:Program)(Γ:Ay)(ops:Array Oper)(l:Θ)(p:Nat)(S:St)(An:BS):Option (FuncId×List DV×Option Tmp×St×List Prop×BS):=match EL P Γ ops (CM ops l) S An with
 | none=>none
 | some (a,vs,b)=>match ops[p]? with
  | none=>none
  | some o=>match K3 ops a o with
   | some true=>match o.op with
    | .call c=>match c.callee with
     | .value f=>match Ad a.fr f with
      | .fn g m cap=>some (g,c.args.toList.map (Ad a.fr)++(List.range m).map cap,o.dst,a,vs,b)
      | _=>none
     | _=>none
    | _=>none
   | _=>none
def gF (P:Program)(Γ:Ay)(ops:Array Oper)(l:Θ)(p:Nat)(S:St)(An:BS):Option (List DV×Nat×Option Tmp×St×List Prop×BS):=match EL P Γ ops (CM ops l) S An with
 | none=>none
 | some (a,vs,m)=>match ops[p]? with
  | none=>none
  | some o=>match K3 ops a o with
   | some true=>match o.op with
    | .call c=>match c.callee with
     | .value f=>match Ad a.fr f with
      | .yl l=>match (c.args.toList.map (Ad a.fr)).all GK with
       | true=>some (c.args.toList.map (Ad a.fr),l,o.dst,a,vs,m)
       | false=>none
      | _=>none
     | _=>none
    | _=>none
   | _=>none
end
end
def AI.pl {M M':Ψ}{w:World}(Y: ∀ b,M' b -> M b){ρ ρ':List AK}(t: ∀ (k:Nat) (p:AK),ρ[k]? =some p -> ∃ q,ρ'[k]? =some { p with foot:=q }): ∀ (d:DV) {v:Value},AI M w d ρ v -> AI M' w d ρ' v:=by
 have low: ∀ (d:DV) {v:Value},AI M w d [] v -> AI M' w d [] v:=λd v h=>h.out d ⟨λ_ _ _ _=>rfl,λb C=>.inl (Y b C),λk p hk=>by simp at hk⟩
 intro d
 induction d with
 | any=>intro v _;trivial
 | nils=>intro v h;exact h
 | int k n=>intro v h;exact h
 | bool b=>intro v h;exact h
 | str s=>intro v h;exact h
 | ints l=>intro v h;exact low (.ints l) h
 | bools l=>intro v h;exact low (.bools l) h
 | sl m n f _=>intro v h;exact low (.sl m n f) h
 | fp m f _=>intro v h;exact low (.fp m f) h
 | agg m f x=>rintro v ⟨cs,e,y,h⟩;exact ⟨cs,e,y,λj z=>let ⟨u,A,B⟩:=h j z;⟨u,A,x j B⟩⟩
 | tup m f x=>rintro v ⟨cs,e,y,h⟩;exact ⟨cs,e,y,λj z=>let ⟨u,A,B⟩:=h j z;⟨u,A,x j B⟩⟩
 | fn g m c x=>rintro v ⟨cs,e,y,h⟩;exact ⟨cs,e,y,λj z=>let ⟨u,A,B⟩:=h j z;⟨u,A,x j B⟩⟩
 | ref k j=>rintro v ⟨p,o,e⟩;obtain ⟨q,h⟩:=t k p o;exact ⟨_,h,e⟩
 | msl k m off n=>rintro v ⟨p,cap,o,r⟩;obtain ⟨q,h⟩:=t k p o;exact ⟨_,cap,h,r⟩
 | mp k m i j=>rintro v ⟨p,o,e⟩;obtain ⟨q,h⟩:=t k p o;exact ⟨_,h,e⟩
 | it k=>rintro v ⟨p,o,e⟩;obtain ⟨q,h⟩:=t k p o;exact ⟨_,h,e⟩
 | yl l=>intro v h;exact h
 | cst u=>intro v h;exact h
 | mri k i=>rintro v ⟨p,vs,o,r⟩;obtain ⟨q,h⟩:=t k p o;exact ⟨_,vs,h,r⟩
 | mse k m off n=>rintro v ⟨p,a,cap,o,r⟩;obtain ⟨q,h⟩:=t k p o;exact ⟨_,a,cap,h,r⟩
 | gr k=>rintro v ⟨p,a,n,cap,o,r⟩;obtain ⟨q,h⟩:=t k p o;exact ⟨_,a,n,cap,h,r⟩
theorem A7.ro {L k:Nat}{S:St}{l:List DV}(hk:S.h[k]? =some (some (.cells l)))(hL:L<=k):A7 L S ⟨S.fr,S.h.set k (some (.ro l))⟩:=λP Γ N ρ a w R=>by
 obtain ⟨p,D,F⟩:=R.hr.obj k _ hk;have F:AY w p l.length _:=F;obtain ⟨V,JT⟩:=F;have FT:k<ρ.length:=(zJ0.1 D).1;have hkh:k<S.h.length:=(zJ0.1 hk).1
 let p':AK:={ p with foot:=λ_=>False }
 have E: ∀ (i:Nat) (q:AK),(ρ.set k p')[i]? =some q -> (i=k/\ q=p')∨(i≠k/\ ρ[i]? =some q):=λi q h=>by
  grind
 have G: ∀ (i:Nat) (q:AK),i≠k -> ρ[i]? =some q -> (ρ.set k p')[i]? =some q:=λi q hi h=>Z4
 have AF:(ρ.set k p')[k]? =some p':=Z4
 have FS: ∀ (i:Nat) (q:AK),ρ[i]? =some q -> ∃ ft,(ρ.set k p')[i]? =some { q with foot:=ft }:=λi q h=>by
  by_cases e:i=k
  ·grind
  ·exact ⟨q.foot,G i q e h⟩
 have z: ∀ (i:Nat) (o:DO),(S.h.set k (some (.ro l)))[i]? =some (some o) -> (i=k/\ o= .ro l)∨(i≠k/\ S.h[i]? =some (some o)):=λi o h=>by
  grind
 have Q: ∀ b,MO (S.h.set k (some (.ro l))) (ρ.set k p') b -> MO S.h ρ b/\ b≠p.blk:=by
  rintro b ⟨i,o,q,B,C,H⟩;rcases E i q C with ⟨rfl,rfl⟩ | ⟨hi,C⟩
  ·exact H.elim
  ·rcases z i o B with ⟨rfl,_⟩ | ⟨_,B⟩
   ·exact absurd rfl hi
   ·exact ⟨⟨i,o,q,B,C,H⟩,λe=>R.hr.dis i k o _ q p b hi B hk C D H (by rw [V];exact e)⟩
 have A: ∀ b,MS N (S.h.set k (some (.ro l))) (ρ.set k p') b -> MS N S.h ρ b:=λb c=>c.imp id λh=>(Q b h).1
 have I:=R.hr.cel k _ p p.blk hk D (by rw [V]);have Y: ∀ (d:DV) {v:Value},AI (MS N S.h ρ) w d ρ v -> AI (MS N (S.h.set k (some (.ro l))) (ρ.set k p')) w d (ρ.set k p') v:=λd v h=>h.pl A FS
 refine ⟨ρ.set k p',⟨⟨by simp [R.hr.len],λi o hi=>?_,λi o q b g r s=>?_,λi J o o' q W b K g r s U X Z=>?_,R.hr.nlt,R.hr.gi⟩,⟨R.fr.1,λj hj=>Y _ (R.fr.2 j hj)⟩⟩,⟨AS.refl _ _,λb c=>.inl (Q b c).1⟩,λi q hi M=>G i q Z2 M⟩
 ·rcases z i o hi with ⟨rfl,rfl⟩ | ⟨K,hi⟩
  ·refine ⟨p',AF,rfl,λO=>O.elim I.2.1 λO=>(Q _ O).2 rfl,?_⟩;exact AY.out (R':=λj u=>AI (MS N (S.h.set i (some (.ro l))) (ρ.set i p')) w (l.getD j .any) (ρ.set i p') u) (show AY w { p' with foot:=λb=>b=p'.blk } l.length _ from ⟨rfl,JT⟩) rfl λj u _ t=>Y _ t
  ·obtain ⟨q,M,y⟩:=R.hr.obj i o hi;refine ⟨q,G i q K M,?_⟩;cases o with
   | cells l'=>exact AY.out y rfl λj u _ t=>Y _ t
   | ints l'=>exact AY.out y rfl λj u _ t=>t
   | bools l'=>exact AY.out y rfl λj u _ t=>t
   | arr m n f=>exact AY.out y rfl λj u _ t=>AI.out _ ⟨λ_ _ _ _=>rfl,λb c=>.inl (A b c),λ_ _ h=>by simp at h⟩ t
   | gro m n f=>exact BT.gr y (λ_=>rfl) λt=>AI.out _ ⟨λ_ _ _ _=>rfl,λb c=>.inl (A b c),λ_ _ h=>by simp at h⟩ t
   | iter encs=>
    obtain ⟨gf,lb,Rd,q1,q2,q3,q4⟩:=y;exact ⟨gf,lb,Rd,q1,q2,λb c=>⟨λT=>(q3 b c).1 (A b T),(q3 b c).2⟩,q4⟩
   | ro l'=>
    obtain ⟨r1,r2,r3⟩:=y;exact ⟨r1,λT=>r2 (A _ T),AY.out r3 rfl λj u _ t=>Y _ t⟩
   | mo x=>exact y
 ·rcases E i q r with ⟨rfl,rfl⟩ | ⟨hi,r⟩
  ·exact s.elim
  ·rcases z i o g with ⟨rfl,_⟩ | ⟨_,g⟩
   ·exact absurd rfl hi
   ·exact R.hr.cel i o q b g r s
 ·rcases E i q s with ⟨rfl,rfl⟩ | ⟨hi,s⟩
  ·exact X.elim
  ·rcases E J W U with ⟨rfl,rfl⟩ | ⟨Bq,U⟩
   ·exact Z.elim
   ·rcases z i o g with ⟨rfl,_⟩ | ⟨_,g⟩
    ·exact absurd rfl hi
    ·rcases z J o' r with ⟨rfl,_⟩ | ⟨_,r⟩
     ·exact absurd rfl Bq
     ·exact R.hr.dis i J o o' q W b K g r s U X Z
section
theorem zI {h1 h:DH}(hS:h1.take h.length=h):h1=h++h1.drop h.length:=by
 grind [List.take_append_drop]
section
variable {L:Nat} {k K:List KI} {S:St} {ops:Array Oper}
 {c:List (DV×DH×Bool)} {o:List (Nat×DV)} {z:List (Nat×Fz)} {v:List Prop} {fr:List DV} {h h1:DH} {l l1 l2:Θ} {p:Nat} {dst:Option Tmp}
variable {Q:QY Tryz.prog GG L}{Y:BK Tryz.prog GG L}
theorem QB {e:List PanicEntry}(h:Q (.panic e) S Y): ∀ (k:List KI),BG Tryz.prog GG Fence.wide none L Q k (.panic e) S Y
 | []=>h
 | .blk _::k=>QB h k
 | .code _::k=>QB h k
 | .lend _::k=>QB h k
 | .scp::k=>QB h k
 | .loopN _ _::k=>QB h k
def jl (L:Nat)(h:DH):DH:=(List.range L).map λk=>N4 (List.range L) (h.getD k none)
def bu (C:Θ)(r:St×List Prop×BS):List DV×DH×List Prop:=(forget C r.1.fr,r.1.h,r.2.1)
variable {C:Θ}
theorem vY {x:Option (St×List Prop×BS)}(h:x.map (bu C)=some (fr,h1,v)): ∃ f Q,x=some (⟨f,h1⟩,v,Q)/\ fr=forget C f:=by
 cases x with
 | none=>cases h
 | some q=>
  obtain ⟨⟨f,g⟩,w,Q⟩:=q
  simp_all [bu]
variable {S':St}
def Di.weaken (i:A7 L S S')(hk:Di Tryz.prog GG Y ops l S' Q):Di Tryz.prog GG Y ops l S Q:=λN ρ a w R y m=>by
 obtain ⟨ρ1,b,B,F⟩:=i Tryz.prog GG N ρ a w R;exact hk N ρ1 a w b (Y.st y R.hr b.hr B F) m
theorem Zd {f:List DV}{d:DV}(N:fr=forget C f):A7 L ⟨Cn f dst d,h⟩ ⟨Cn fr dst d,h⟩:=by
 subst N;cases dst with
 | none=>exact A7.forget C f h
 | some t=>
  refine A7.fr (by simp [Cn,Xh]) λj i=>?_
  have i:j<f.length:=by simpa [Cn] using i
  show AM ((f.set t d).getD j .any) (((forget C f).set t d).getD j .any)
  by_cases e:t=j
  ·grind [Xh,AM.refl]
  ·have e1:(f.set t d).getD j .any=f.getD j .any:=Z4
   have e2:((forget C f).set t d).getD j .any=(forget C f).getD j .any:=Z4
   grind [nU,AM.refl,AM.any]
def XM:List KI -> Bool
 | .code _::_=>true
 | .blk _::k=>XM k
 | .scp::k=>XM k
 | .loopN _ _::_=>true
 | _=>false
def A5.leH {F:Fence}{B:Option Nat}(i:A7 L S S'): ∀ {k:List KI},XM k=true -> A5 Tryz.prog GG F B L Y Q k S' -> A5 Tryz.prog GG F B L Y Q k S
 | .code _::_,_,h=>Tr.weaken i h
 | .blk _::k,e,h=>A5.leH (k:=k) i e h
 | .scp::k,e,h=>A5.leH (k:=k) i e h
 | .loopN 0 _::_,_,h=>h.elim
 | .loopN (_+1) _::_,_,h=>Tr.weaken i h
 | .lend _::_,e,_=>by cases e
 | [],e,_=>by cases e
def bs (C:Θ)(r:FuncId×List DV×Option Tmp×St×List Prop×BS):FuncId×List DV×Option Tmp×List DV×DH×List Prop:=(r.1,r.2.1,r.2.2.1,forget C r.2.2.2.1.fr,r.2.2.2.1.h,r.2.2.2.2.1)
theorem vX {x:Option (FuncId×List DV×Option Tmp×St×List Prop×BS)}{g:FuncId}{ds:List DV}(h:x.map (bs C)=some (g,ds,dst,fr,h1,v)): ∃ f Q,x=some (g,ds,dst,⟨f,h1⟩,v,Q)/\ fr=forget C f:=by
 cases x with
 | none=>cases h
 | some q=>
  obtain ⟨g,ds,dst,⟨f,g'⟩,w,Q⟩:=q
  simp_all [bs]
def jq (C:Θ)(r:List DV×Nat×Option Tmp×St×List Prop×BS):List DV×Nat×Option Tmp×List DV×DH×List Prop:=(r.1,r.2.1,r.2.2.1,forget C r.2.2.2.1.fr,r.2.2.2.1.h,r.2.2.2.2.1)
theorem zHh {x:Option (List DV×Nat×Option Tmp×St×List Prop×BS)}{g:List DV}{ds:Nat}(h:x.map (jq C)=some (g,ds,dst,fr,h1,v)): ∃ f Q,x=some (g,ds,dst,⟨f,h1⟩,v,Q)/\ fr=forget C f:=by
 cases x with
 | none=>cases h
 | some q=>
  obtain ⟨g,ds,dst,⟨f,g'⟩,w,Q⟩:=q
  simp_all [jq]
end
def aG:Θ -> DH -> Option DH
 | [],h=>some h
 | k::T,h=>match h.getD k none with
  | some (.cells l)=>aG T (h.set k (some (.ro l)))
  | _=>none
variable {fr:List DV}{L:Nat}
def A7.ros : ∀ (T:Θ) {h h':DH},aG T h=some h' -> (T.all λk=>Nat.ble L k)=true -> A7 L ⟨fr,h⟩ ⟨fr,h'⟩
 | [],h,h',e,_=>by cases e;exact A7.refl _ _
 | k::T,h,h',e,hk=>by
  simp only [zPm,zAD] at hk;simp only [aG] at e;split at e
  ·rename_i l n;exact (A7.ro (S:=⟨fr,h⟩) (getD_some n) (zJr hk.1)).trans (A7.ros T e hk.2)
  ·cases e
def yro {Y:BK Tryz.prog GG L}{Q:QY Tryz.prog GG L}{K:List KI}{F:Fence}{B:Option Nat}{h:DH}(T:Θ)(h':DH)(hk:A5 Tryz.prog GG F B L Y Q K ⟨fr,h'⟩)(e:aG T h=some h':=by kernel_rfl)(j:(T.all λk=>Nat.ble L k)=true:=by kernel_rfl)(n:JM K=true:=by kernel_rfl):A5 Tryz.prog GG F B L Y Q K ⟨fr,h⟩:=
 BI.le (A7.ros T e j) n hk
end
theorem YV.le {x y:List DV}(o:Jg x y){R:Ψ}{W:World}{args:Array Value}(h:YV x R W args):YV y R W args:=by
 obtain ⟨h1,h2⟩:=Uh o
 grind [YV,AM]
inductive Ys where
 | go (i:Nat)
 | stop
 | pan (c:List PanicEntry)
def YsY (j:Nat):Ys -> Ending -> Prop
 | .go k,e=>k=j/\ e= .returned (.bool true)
 | .stop,e=>e= .returned (.bool false)
 | .pan c,e=>e= .panicked c
def RU (tD:Bool -> DV)(j:Nat)(s:Ys)(e:Ending)(M:Ψ)(w:World)(ρ:List AK):Prop:=match s with
 | .go k=>k=j/\ ∃ v,e= .returned v/\ AI M w (tD true) ρ v
 | .stop=>∃ v,e= .returned v/\ AI M w (tD false) ρ v
 | .pan c=>e= .panicked c
theorem RU.out {tD:Bool -> DV}{j:Nat}{s:Ys}{e:Ending}{M M':Ψ}{w:World}{ρ ρ':List AK}(H:BL M w ρ M' w ρ')(h:RU tD j s e M w ρ):RU tD j s e M' w ρ':=by
 cases s with
 | go k=>obtain ⟨h0,v,a,b⟩:=h;exact ⟨h0,v,a,b.out _ H⟩
 | stop=>obtain ⟨v,a,b⟩:=h;exact ⟨v,a,b.out _ H⟩
 | pan c=>exact h
structure EN (P:Program) where
 l:Nat
 encs:List (List DV)
 J:Ys -> (Ψ) -> (Ψ) -> World -> Prop
 hJ: ∀ s,Cw (J s)
 hy: ∀ i x args G R W1,encs[i]? =some x -> YV x R W1 args -> J (.go i) G R W1 -> D8 G R W1 -> YieldAt Fence.wide 0 P l args W1 λe W'=>
  AS (λk=>¬ (G k∨R k)) W1 W'/\ ∃ s,YsY (i+1) s e/\ J s G R W'
def YW (P:Program)(Γ:Ay)(tD:Bool -> DV)(f:Nat)(ds:Nat -> List DV)(h:Nat -> DH)(ys:List (List DV)):Prop:= (∀ args W,(callFunc f args).run P W= .ok (.enter f args) W)/\ ∀ (C:EN P),∀ i,(∃ rest,C.encs.drop i=ys++rest) -> ∀ N ρ args w G R,As P Γ N (h C.l) ρ w -> BB (MS N (h C.l) ρ) w ρ (ds C.l) args -> C.J (.go i) G R w -> IY Γ N G R (h C.l) ρ w -> CallsIn Fence.wide 0 P f args w λe w'=>∃ s c ρ' a R',As P Γ c (h C.l) ρ' w'/\ C.J s a R' w'/\ IY Γ c a R' (h C.l) ρ' w'/\ B0 (h C.l).length ρ ρ'/\ RU tD (i+ys.length) s e (MS c (h C.l) ρ') w' ρ'
section
variable {P:Program} {Γ:Ay}
def EN.part (C:EN P)(O y Y:Ψ)(w:World)(S: ∀ b,O b -> b<w.heap.size)(dq: ∀ b,y b -> b<w.heap.size):EN P where
 l:=C.l
 encs:=C.encs
 J:=λs G R W=>C.J s (λb=>G b∨O b) R W/\ AS (λb=>¬ (O b∨y b)) w W/\ (∀ b,O b -> ¬ G b/\ ¬ R b)/\ (∀ b,y b -> R b)/\ (∀ b,G b -> Y b∨w.heap.size<=b)/\ (∀ b,G b -> ¬ R b)
 hJ:=by
  rintro s G R u R' A B ⟨g,a,j,m,o,r⟩ t z D Ik v p;have c:=a.size;have E: ∀ b,O b -> b<A.heap.size:=λb f=>zCD (S b f) c
  have q: ∀ b,O b -> ¬ u b/\ ¬ R' b:=λb f=>by
   grind
  refine ⟨C.hJ s _ R _ R' A B g (t.mono λ_ _ h=>.inl h) (λk hk=>hk.elim (λh=>(z k h).imp .inl id) λh=>.inl (.inr h)) (λk hk=>(D k hk).imp id λh=>h.imp .inl id) (λk hk=>?_) (λk hk=>hk.elim (v k) λh=>(q k h).2) (λk hk=>?_),a.comp t λi hi d=>?_,q,λb f=>?_,λb f=>?_,v⟩
  ·grind
  ·rcases hk with (hk | hk) | hk
   ·exact p k (.inl hk)
   ·exact zCD (E k hk) t.size
   ·exact p k (.inr hk)
  ·grind
  ·grind
  grind
 hy:=by
  rintro i x args G R F d H ⟨g,a,j,m,o,r⟩ c
  obtain ⟨fn,tmps,I,X,hy,hR⟩:=C.hy i x args _ R F d H g ⟨λk hk=>hk.elim (c.dis k) λh=>(j k h).2,λk hk=>by
   rcases hk with (hk | hk) | hk
   ·exact c.lt k (.inl hk)
   ·exact zCD (S k hk) a.size
   ·exact c.lt k (.inr hk)⟩
  refine ⟨fn,tmps,I,X,hy,hR.mono ?_⟩;rintro e W' ⟨t,n⟩;obtain ⟨s,K,n⟩:=n;exact ⟨t.mono λk _ h d=>h (d.imp .inl id),s,K,n,a.comp t λi _ d L=>d (L.imp .inr (m i)),j,m,o,r⟩
variable {ys:List (List DV)}{h:Nat -> DH}{ds:Nat -> List DV}{f:Nat}{tD:Bool -> DV}
theorem YW.call (H:YW P Γ tD f ds h ys){C:EN P}{i:Nat}(hi: ∃ rest,C.encs.drop i=ys++rest){N G R:Ψ}{u T:DH}{ρ:List AK}{w:World}{args:Array Value} 
 (e:u=h C.l++T) (HR:As P Γ N u ρ w) (hc:(h C.l).all (UO (h C.l).length)=true) (hd:(ds C.l).all (CP (h C.l).length)=true) (fa:BB (MS N u ρ) w ρ (ds C.l) args) (hj:C.J (.go i) G R w) (y:IY Γ N G R u ρ w):
 CallsIn Fence.wide 0 P f args w λe w'=>∃ s g ρ2 G2 R2,As P Γ g (h C.l++T) ρ2 w'/\ C.J s G2 R2 w'/\ IY Γ g G2 R2 (h C.l++T) ρ2 w'/\ B0 u.length ρ ρ2/\ RU tD (i+ys.length) s e (MS g (h C.l++T) ρ2) w' ρ2/\
  BL (MS N u ρ) w ρ (MS g (h C.l++T) ρ2) w' ρ2/\ AS (λb=>N b∨MO (h C.l) (ρ.take (h C.l).length) b∨w.heap.size<=b) w w':=by
 subst e;obtain ⟨K,L⟩: ∃ K,K=(h C.l).length:=⟨_,rfl⟩;have hK:(h C.l++T).take K=h C.l:=Z4
 have hKl:K<=(h C.l++T).length:=Z4
 obtain ⟨Ei,hM⟩:=HR.take hKl (by rw [hK,L];exact hc);rw [hK] at Ei hM;obtain ⟨R1,z1,Y,z3,z4⟩:=IY.part (C.hJ (.go i)) hj y;have sp:=λb=>MO.split (h:=h C.l++T) (ρ:=ρ) K b
 rw [hK] at sp;obtain ⟨O,W⟩: ∃ O,O=MT K (h C.l++T) ρ:=⟨_,rfl⟩;obtain ⟨q,dw⟩: ∃ q,q=MO (h C.l) (ρ.take K):=⟨_,rfl⟩;rw [←W] at Ei hM;rw [←L,←dw];have sp':(λb=>q b∨O b)=MO (h C.l++T) ρ:=by rw [dw,W];grind
 have X: ∀ b,q b∨O b↔MO (h C.l++T) ρ b:=λb=>iff_of_eq (congrFun sp' b)
 have Ab: ∀ b,MO (h C.l++T) ρ b -> b<w.heap.size:=λb hb=>Y.sh.lt b (.inl hb)
 have Tw: ∀ b,q b -> ¬ O b:=λb A B=>by
  rw [dw] at A;rw [W] at B;obtain ⟨k,o,p,D,a,x⟩:=A;obtain ⟨k',o',p',g1,E,F,U⟩:=B;rw [zP7] at a;split at a
  ·exact HR.dis k k' o o' p p' b Z2 Z4 E a F x U
  ·cases a
 have hNG: ∀ b,N b -> ¬ MO (h C.l++T) ρ b:=λb hN=>((Y.n b).1 hN).2.1
 let C':EN P:=C.part O R1 q w (λb hb=>Ab b ((X b).1 (.inr hb))) λb hb=>Y.sh.lt b (.inr hb)
 have fa':BB (MS (λb=>N b∨O b) (h C.l) (ρ.take K)) w (ρ.take K) (ds C.l) args:=by
  have e:MS (λb=>N b∨O b) (h C.l) (ρ.take K)=MS N (h C.l++T) ρ:=funext λb=>propext (hM b)
  rw [e];exact fa.take (by rw [L];exact hd)
 refine (H.2 C' i hi (λb=>N b∨O b) (ρ.take K) args w q R1 Ei fa' ⟨Z4,AS.refl _ _,λb hb=>⟨λI=>Tw b I hb,Y.sh.dis b ((X b).1 (.inr hb))⟩,λ_ h=>h,λ_ h=>.inl h,λb hb=>Y.sh.dis b ((X b).1 (.inl hb))⟩
  ⟨⟨λb hb=>Y.sh.dis b ((X b).1 (.inl hb)),λb hb=>hb.elim (λh=>Ab b ((X b).1 (.inl h))) λh=>Y.sh.lt b (.inr h)⟩,Y.lo,λb hb=>by rw [dw];exact hb,λb=>?_⟩).mono ?_
 ·constructor
  ·rintro (hb | hb)
   ·exact ⟨((Y.n b).1 hb).1,λI=>hNG b hb ((X b).1 (.inl I)),((Y.n b).1 hb).2.2⟩
   ·exact ⟨Ab b ((X b).1 (.inr hb)),λI=>Tw b I hb,Y.sh.dis b ((X b).1 (.inr hb))⟩
  grind [MS]
 ·rintro e w' ⟨s,N',ρs,G',R',M,⟨j1,Q,V,j4,j5,j6⟩,d,kp,ho⟩;have BR:=Q.size;have hls:ρs.length=K:=by rw [M.len,L];rfl
  have Ag:ρ.length=K+T.length:=by rw [HR.len,zKH,L]
  have hN2: ∀ b,(b<w'.heap.size/\ ¬ (G' b∨O b)/\ ¬ R' b) -> N' b:=λb ⟨D,a,x⟩=>(d.n b).2 ⟨D,λh=>a (.inl h),x⟩
  have hON: ∀ b,O b -> N' b:=λb hb=>(d.n b).2 ⟨zCD (Ab b ((X b).1 (.inr hb))) BR,(V b hb).1,(V b hb).2⟩
  have pl: ∀ (k:Nat) (p:AK),ρ[k]? =some p -> (ρs++ρ.drop K)[k]? =some p:=λk p j=>by
   rcases zKL k K with hk | hk
   ·rw [zLT Z2];exact kp k p (by show k<(h C.l).length;rw [←L];exact hk) Z4
   grind
  have v: ∀ {k:Nat} {p:AK},k<K -> (ρs++ρ.drop K)[k]? =some p -> ρs[k]? =some p:=λ{k p} hk j=>Z4
  have gr: ∀ {k:Nat} {p:AK},K<=k -> (ρs++ρ.drop K)[k]? =some p -> ρ[k]? =some p:=λ{k p} hk j=>by
   grind
  have r: ∀ {k:Nat} {o:DO},k<K -> (h C.l++T)[k]? =some (some o) -> (h C.l)[k]? =some (some o):=λ{k o} hk ho=>Z4
  have b6: ∀ {k:Nat} {o:DO},K<=k -> (h C.l++T)[k]? =some (some o) -> (h C.l++T)[k]? =some (some o):=λ{k o} hk ho=>by
   grind
  have Lo: ∀ b,MO (h C.l++T) (ρs++ρ.drop K) b -> G' b∨O b:=by
   rintro b ⟨k,o,p,D,a,x⟩;rcases zKL k K with hk | hk
   ·exact .inl (d.own b ⟨k,o,p,r hk D,v hk a,x⟩)
   ·exact .inr (by rw [W];grind [MT])
  obtain ⟨g,zMV⟩: ∃ g:Ψ,g=λb=>b<w'.heap.size/\ ¬ (G' b∨O b)/\ ¬ R' b:=⟨_,rfl⟩
  have IE: ∀ b,g b -> N' b:=λb hb=>Z4
  have hM2: ∀ b,MS g (h C.l++T) (ρs++ρ.drop K) b -> b<w'.heap.size/\ ¬ R' b:=λb hb=>by
   rcases hb with hb | hb
   ·grind
   ·rcases Lo b hb with hb | hb
    ·exact ⟨d.sh.lt b (.inl hb),j6 b hb⟩
    grind
  have Z:BL (MS N (h C.l++T) ρ) w ρ (MS g (h C.l++T) (ρs++ρ.drop K)) w' (ρs++ρ.drop K):=by
   refine ⟨λb hb hm _=>Q.block b hb λm=>m (.inr ?_),λb hb=>?_,pl⟩
   ·grind
   grind
  have jv:BL (MS N' (h C.l) ρs) w' ρs (MS g (h C.l++T) (ρs++ρ.drop K)) w' (ρs++ρ.drop K):=by
   refine ⟨λ_ _ _ _=>rfl,λb hb=>.inl ?_,λk p j=>?_⟩
   ·rcases hb with hb | hb
    ·exact .inl (IE b hb)
    ·obtain ⟨k,o,p,D,a,x⟩:=hb;rcases zKL k K with hk | hk
     ·grind [MS,MO]
     ·exact .inl (hON b (by rw [W];grind [MT]))
   grind
  refine ⟨s,g,ρs++ρ.drop K,λb=>G' b∨O b,R',⟨by simp [hls,Ag,L],λk o hk=>?_,λk o p b A B h3=>?_,λi i' o o' p p' b Ah g1 E F U g5 g6=>?_,λb hb=>?_,M.gi⟩,j1,⟨⟨λb hb=>hb.elim (j6 b) λh=>(V b h).2,λb hb=>?_⟩,d.lo,Lo,λb=>by rw [zMV]⟩,λk p _ j=>pl k p j,ho.out jv,Z,?_⟩
  ·rcases zKL k K with KW | KW
   ·obtain ⟨p,j,hr⟩:=M.obj k o (r KW hk);exact ⟨p,jv.pl k p j,hr.out jv (S:=λ_=>False) (AS.refl _ _) (λ_ h=>h.elim) λ_ _ _ h=>h⟩
   ·obtain ⟨p,j,hr⟩:=HR.obj k o (b6 KW hk);refine ⟨p,pl k p j,hr.out Z (S:=λb=>b<w.heap.size/\ ¬ (O b∨R1 b)) (Q.mono λb hb m=>⟨hb,m⟩) (λb hb=>z3 b ⟨hb.1,λhr=>hb.2 (.inr hr)⟩) λb _ hf m=>m.2 (.inl ?_)⟩;rw [W];grind [MT]
  ·rcases zKL k K with KW | KW
   ·obtain ⟨c1,c2,c3⟩:=M.cel k o p b (r KW A) (v KW B) h3
    grind
   ·have Do:O b:=by rw [W];grind [MT]
    obtain ⟨c1,_,c,t,z,c3⟩:=HR.cel k o p b (b6 KW A) (gr KW B) h3;refine ⟨c1,λm=>?_,c,t,z,(Q.block b (zA0.1 c3).1 λm=>m (.inl Do)).trans c3⟩
    grind
  ·rcases zKL i K with Oo | Oo <;> rcases zKL i' K with Mz | Mz
   ·exact M.dis i i' o o' p p' b Ah (r Oo g1) (r Mz E) (v Oo F) (v Mz U) g5 g6
   ·exact (V b (by rw [W];grind [MT])).1 (d.own b ⟨i,o,p,r Oo g1,v Oo F,g5⟩)
   ·exact (V b (by rw [W];grind [MT])).1 (d.own b ⟨i',o',p',r Mz E,v Mz U,g6⟩)
   ·exact HR.dis i i' o o' p p' b Ah (b6 Oo g1) (b6 Mz E) (gr Oo F) (gr Mz U) g5 g6
  ·exact M.nlt b (IE b hb)
  ·rcases hb with (hb | hb) | hb
   ·exact d.sh.lt b (.inl hb)
   ·grind
   ·exact d.sh.lt b (.inr hb)
  ·refine Q.mono λb hb m=>?_
   grind [MS]
def EN.K (C:EN P)(Γ:Ay)(L:Nat)(s:Ys)(ρ0:List AK):BK P Γ L where
 I:=λN h ρ w=>(QX P Γ L (C.J s) (C.hJ s)).I N h ρ w/\ B0 L ρ0 ρ
 st:=λ⟨a,b⟩ H c st k=>⟨(QX P Γ L (C.J s) (C.hJ s)).st a H c st k,b.trans k⟩
def YQW (C:EN P)(Γ:Ay)(tD:Bool -> DV)(fn:Func)(L j:Nat)(ρ0:List AK)(h:DH):QY P Γ L:=λe S Y=> (Y=C.K Γ L (.go j) ρ0/\ Cp P fn L (tD true) h e S)∨(Y=C.K Γ L .stop ρ0/\ Cp P fn L (tD false) h e S)∨∃ c,Y=C.K Γ L (.pan c) ρ0/\ e= .panic c/\ ∃ U,A7 L S U/\ U.h=h
theorem YW.of {L:Nat}{fn:Func}(S:P.funcs[f]? =some fn)(m:fn.body.isSome=true)(E:(fn.name== "runtime.NumGoroutine")=false)(hL: ∀ l,(h l).length=L) 
 (T: ∀ (C:EN P) (i:Nat) (ρ0:List AK),(∃ rest,C.encs.drop i=ys++rest) -> A5 P Γ Fence.wide none L (C.K Γ L (.go i) ρ0) (YQW C Γ tD fn L (i+ys.length) ρ0 (h C.l)) [.code (Ac fn)] ⟨ds C.l++List.replicate (fn.ntmps-(ds C.l).length) .any,h C.l⟩):YW P Γ tD f ds h ys:=by
 refine ⟨λargs W=>Jd S m E args W,λC i hi N ρ args w G R HR fa hj y=>?_⟩;refine z7 S m (T C i ρ hi) HR fa ⟨⟨G,R,hj,y⟩,B0.refl _ _⟩ ?_
 have n: ∀ {s:Ys} {d:DV} {e:Exit} {S':St} {ρ':List AK} {a:Ψ} {a':Act} {p:World},Cp P fn L d (h C.l) e S' -> AU P Γ a S' ρ' a' p -> (C.K Γ L s ρ).I a S'.h ρ' p -> (∀ M ρ' v,AI M p d ρ' v -> RU tD (i+ys.length) s (.returned v) M p ρ') -> ∃ v,(results fn a'.tmps).run P p= .ok v p/\ ∃ s a ρ' U R',As P Γ a (h C.l) ρ' p/\ C.J s U R' p/\ IY Γ a U R' (h C.l) ρ' p/\ B0 (h C.l).length ρ ρ'/\ RU tD (i+ys.length) s (.returned v) (MS a (h C.l) ρ') p ρ':=by
  rintro s d e S' ρ' a a' p ⟨he,V,F,rs,Og,o⟩ g ⟨x,X⟩ hE;obtain ⟨ρ'',r,U8,Wf⟩:=F P Γ a ρ' a' p g;have Y:=(QX P Γ L (C.J s) (C.hJ s)).st x g.hr r.hr U8 Wf;obtain ⟨v,g1,Z⟩:=aQ r Og;rcases o with ⟨o,z⟩ | ⟨_,o,E,hl,z⟩
  ·obtain ⟨A,H,B,y3⟩:=Y;have g3:=o _ _ _ _ Z;have Rh:=r.hr
   grind [B0]
  ·obtain ⟨ρ3,H,t,D⟩:=A7.compact (L:=L) (List.range L) V List.nodup_range (λk hk=>zCD (zIN.1 hk) hl) (λk hk=>by simp [hk]) P Γ a ρ'' a' p r;obtain ⟨A,O,B,y3⟩:=(QX P Γ L (C.J s) (C.hJ s)).st Y r.hr H.hr t D;have u:=H.hr;rw [z] at u t y3;refine ⟨v,g1,s,a,ρ3,A,O,u,B,y3,by grind [B0],hE _ _ _ ?_⟩;have r0:=E _ _ _ _ (o _ _ _ _ Z);have r1:AI (MS a (h C.l) ρ3) p d [] v:=AI.out _ ⟨λ_ _ _ _=>rfl,λb m=>m.elim (λj=>.inl (.inl j)) λj=>(t.grow b j).imp .inr id,λ_ _ j=>by simp at j⟩ r0;exact AI.out _ ⟨λ_ _ _ _=>rfl,λb m=>.inl m,λ_ _ j=>by simp at j⟩ r1
 rintro e S' ρ' a Y' a' p q g x;rcases q with ⟨rfl,q⟩ | ⟨rfl,q⟩ | ⟨c,rfl,rfl,V,F,z⟩
 ·have:=n (s:=.go (i+ys.length)) q g x λM ρ' v Q=>⟨rfl,v,rfl,Q⟩
  rcases q.1 with rfl | rfl <;> exact this
 ·have:=n (s:=.stop) q g x λM ρ' v Q=>⟨v,rfl,Q⟩
  rcases q.1 with rfl | rfl <;> exact this
 ·obtain ⟨x,X⟩:=x;obtain ⟨ρ3,H,t,D⟩:=F P Γ a ρ' a' p g;obtain ⟨A,O,B,y3⟩:=(QX P Γ L (C.J (.pan c)) (C.hJ (.pan c))).st x g.hr H.hr t D;have u:=H.hr;rw [z] at u y3;exact ⟨.pan c,a,ρ3,A,O,u,B,y3,by rw [hL];exact X.trans D,rfl⟩
section
variable {L:Nat} {C:EN P} {i:Nat} {ρ0:List AK} {Q:QY P Γ L} {ops:Array Oper} {S:St} {An:BS} {vs:List Prop}
variable {dst:Option Tmp}{p:Nat}{u:Θ}
def Di.callW {b:Θ}{tD:Bool -> DV}{g:FuncId}{d:St}{G7:BS}{ds:Nat -> List DV}{h:Nat -> DH}{ys:List (List DV)}{T:DH}(O:Du Fence.wide P)(U:Ct ops=true) 
 (j:YD P Γ ops u p S An=some (g,ds C.l,dst,d,vs,G7)) (hv:BX vs) (H:YW P Γ tD g ds h ys) (hS:d.h=h C.l++T) (hc:(h C.l).all (UO (h C.l).length)=true) (hd:(ds C.l).all (CP (h C.l).length)=true) (hi: ∃ rest,C.encs.drop i=ys++rest)
 (hk:Di P Γ (C.K Γ L (.go (i+ys.length)) ρ0) ops b ⟨Cn d.fr dst (tD true),h C.l++T⟩ Q) (r:Di P Γ (C.K Γ L .stop ρ0) ops b ⟨Cn d.fr dst (tD false),h C.l++T⟩ Q)
 (n: ∀ c,Q (.panic c) ⟨NI d.fr,h C.l++T⟩ (C.K Γ L (.pan c) ρ0)):Di P Γ (C.K Γ L (.go i) ρ0) ops (u++p::b) S Q:=λN ρ a w R y m=>by
 unfold YD at j;split at j
 ·cases j
 rename_i X FD G6 h1;split at j
 ·cases j
 rename_i o t;split at j
 ·rename_i hw;split at j
  ·rename_i c Qo;split at j
   ·rename_i f XO;split at j
    ·rename_i g' m' cap hf;simp only [zJw,zKR] at j;obtain ⟨rfl,e2,rfl,rfl,rfl,rfl⟩:=j;rw [TD];have e3:CM ops (p::b)=o::CM ops b:=by simp only [CM,t]
     rw [e3];refine T3 O U _ (P8 u) R h1 hv λρ1 x w1 q V Qw=>?_
     obtain ⟨⟨G,R0,j1,y1⟩,Dd⟩:=(C.K Γ L (.go i) ρ0).st y R.hr q.hr V.st (λk p _ n=>V.pl k p n);obtain ⟨args,Mt,W⟩:=oF q o Qo XO hf H.1;rw [e2] at W;unfold wpListIn;rw [zAE (I2 q hw)];refine ⟨λf _=>O.fn f,?_⟩;rw [zLv _ _ _ (JJ U t),Mt];refine ⟨λr=>(by cases r),(YW.call H hi hS q.hr hc hd W j1 y1).mono ?_⟩;have z:x.defers= []:=Qw.trans m;have C3: ∀ v,(x.put o.dst v).defers=x.defers:=λv=>by cases t:o.dst <;> simp [Act.put]
     rintro e w2 ⟨s,A,ρ2,Z,B,D,Y,E,Mn,F,hO,_⟩;have I:=q.fr.out hO;have J:B0 L ρ0 ρ2:=λk p hk n=>hO.pl k p (Dd k p hk n)
     cases s with
     | go k=>
      obtain ⟨rfl,v,rfl,M⟩:=F;exact hk A ρ2 _ w2 (HP (S:=⟨X.fr,h C.l++T⟩) ⟨D,I⟩ o.dst M) ⟨⟨Z,B,Y,E⟩,J⟩ ((C3 v).trans z)
     | stop=>
      obtain ⟨v,rfl,M⟩:=F;exact r A ρ2 _ w2 (HP (S:=⟨X.fr,h C.l++T⟩) ⟨D,I⟩ o.dst M) ⟨⟨Z,B,Y,E⟩,J⟩ ((C3 v).trans z)
     | pan c=>
      have he:e= .panicked c:=F;subst he;exact ⟨_,_,ρ2,A,_,n c,I.1,D,⟨⟨Z,B,Y,E⟩,J⟩,z⟩
    ·cases j
   ·cases j
  ·cases j
 ·cases j
def Di.yieldW {q:Θ}{x:List DV}{n:St}{Z:BS}(I:Du Fence.wide P)(J:Ct ops=true) 
 (j:gF P Γ ops u p S An=some (x,C.l,dst,n,vs,Z)) (hv:BX vs) {y:List DV} (z:C.encs[i]? =some y) (Bc:Jg x y) (hk:Di P Γ (C.K Γ L (.go (i+1)) ρ0) ops q ⟨Cn n.fr dst (.bool true),n.h⟩ Q) (hs:Di P Γ (C.K Γ L .stop ρ0) ops q ⟨Cn n.fr dst (.bool false),n.h⟩ Q) (A: ∀ c,Q (.panic c) ⟨NI n.fr,n.h⟩ (C.K Γ L (.pan c) ρ0)):Di P Γ (C.K Γ L (.go i) ρ0) ops (u++p::q) S Q:=λN ρ a w R y m=>by
 unfold gF at j;split at j
 ·cases j
 rename_i X FD G6 h1;split at j
 ·cases j
 rename_i o B;split at j
 ·rename_i hw;split at j
  ·rename_i c Qo;split at j
   ·rename_i f XO;split at j
    ·rename_i l hl;split at j
     ·rename_i Wk;simp only [zJw,zKR] at j;obtain ⟨rfl,rfl,rfl,rfl,rfl,rfl⟩:=j;rw [TD];have e3:CM ops (p::q)=o::CM ops q:=by simp only [CM,B]
      rw [e3];refine T3 I J _ (P8 u) R h1 hv λρ1 r w1 b T Qw=>?_
      obtain ⟨⟨G0,R0,y1,y2⟩,D⟩:=(C.K Γ L (.go i) ρ0).st y R.hr b.hr T.st (λk p _ A=>T.pl k p A);obtain ⟨R',z1,Y,z3,_⟩:=IY.part (C.hJ (.go i)) y1 y2;obtain ⟨fn,tmps,RR,body,hy,hR⟩:=C.hy i _ _ _ R' w1 z (YV.le Bc (YV.of (g:=Ad X.fr) (f:=r.eval) (λx=>BV b x) z3 Wk)) z1 Y.sh;unfold wpListIn;rw [zAE (I2 b hw)]
      have mX:r.eval f= .func (.yield C.l) #[] #[]:=by
       have j:=BV b f;rw [hl] at j;exact j
      refine ⟨λf _=>I.fn f,?_⟩;rw [zLv _ _ _ (JJ J B),sk Qo XO mX rfl,hy];refine ⟨λz=>(by cases z),hR.mono ?_⟩;have E:r.defers= []:=Qw.trans m;have U: ∀ v,(r.put o.dst v).defers=r.defers:=λv=>by cases B:o.dst <;> simp [Act.put]
      rintro e t ⟨V,hj⟩;obtain ⟨s,M,F⟩:=hj;obtain ⟨G,W⟩:=Y.later b.hr V;have H:IY Γ (λO=>O<t.heap.size/\ ¬ MO X.h ρ1 O/\ ¬ R' O) (MO X.h ρ1) R' X.h ρ1 t:=⟨Y.sh.upd V,Y.lo,λ_ h=>h,λ_=>Iff.rfl⟩;cases s with
      | go k=>
       obtain ⟨rfl,rfl⟩:=M;exact hk _ ρ1 _ t (HP (S:=X) ⟨G,b.fr.out W⟩ o.dst (d:=.bool true) (v:=.bool true) rfl) ⟨⟨_,_,F,H⟩,D⟩ ((U _).trans E)
      | stop=>
       subst M;exact hs _ ρ1 _ t (HP (S:=X) ⟨G,b.fr.out W⟩ o.dst (d:=.bool false) (v:=.bool false) rfl) ⟨⟨_,_,F,H⟩,D⟩ ((U _).trans E)
      | pan c=>
       subst M;exact ⟨_,_,ρ1,_,_,A c,b.fr.1,G,⟨⟨_,_,F,H⟩,D⟩,E⟩
     ·cases j
    ·cases j
   ·cases j
  ·cases j
 ·cases j
end
end
section
section
variable {P:Program} {Γ:Ay} {F:Fence} {B:Option Nat} {L:Nat}
variable {Q d:QY P Γ L}
theorem Ht.mono {b:Code}(a: ∀ e S Y,Q e S Y -> d e S Y): ∀ (m:Nat) {S:St} {Y:BK P Γ L},Ht P Γ F B L b Q m S Y -> Ht P Γ F B L b d m S Y
 | 0,_,_,h=>h
 | m+1,_,_,h=>Tr.mono h λe S Y h=>by
  cases e with
  | normal=>exact Ht.mono a m h
  | ret=>exact a _ _ _ h
  | exit id=>exact a _ _ _ h
  | goto t=>exact a _ _ _ h
  | panic c=>exact a _ _ _ h
  | outgrown=>exact a _ _ _ h
theorem BG.mono (a: ∀ e S Y,Q e S Y -> d e S Y): ∀ (k:List KI) {e:Exit} {S:St} {Y:BK P Γ L},BG P Γ F B L Q k e S Y -> BG P Γ F B L d k e S Y
 | [],_,_,_,h=>a _ _ _ h
 | .code c::k,e,S,Y,h=>by
  cases e with
  | normal=>exact Tr.mono (show Tr P Γ F B L Y c S (BG P Γ F B L Q k) from h) λ_ _ _ h=>BG.mono a k h
  | ret=>exact BG.mono a k (e:=.ret) h
  | exit id=>exact BG.mono a k (e:=.exit id) h
  | goto t=>exact BG.mono a k (e:=.goto t) h
  | panic c=>exact BG.mono a k (e:=.panic c) h
  | outgrown=>exact BG.mono a k (e:=.outgrown) h
 | .blk id::k,e,S,Y,h=>by
  cases e with
  | exit i=>
   have h:if i=id then BG P Γ F B L Q k .normal S Y else BG P Γ F B L Q k (.exit i) S Y:=h
   show if i=id then BG P Γ F B L d k .normal S Y else BG P Γ F B L d k (.exit i) S Y
   by_cases hi:i=id
   ·rw [zAE hi] at h ⊢;exact BG.mono a k h
   ·rw [zEO hi] at h ⊢;exact BG.mono a k h
  | normal=>exact BG.mono a k (e:=.normal) h
  | ret=>exact BG.mono a k (e:=.ret) h
  | goto t=>exact BG.mono a k (e:=.goto t) h
  | panic c=>exact BG.mono a k (e:=.panic c) h
  | outgrown=>exact BG.mono a k (e:=.outgrown) h
 | .scp::k,e,S,Y,h=>by
  cases e with
  | goto t=>exact h
  | normal=>exact BG.mono a k (e:=.normal) h
  | ret=>exact BG.mono a k (e:=.ret) h
  | exit id=>exact BG.mono a k (e:=.exit id) h
  | panic c=>exact BG.mono a k (e:=.panic c) h
  | outgrown=>exact BG.mono a k (e:=.outgrown) h
 | .lend J::k,e,S,Y,h=>by
  cases e with
  | normal=>exact h
  | ret=>exact BG.mono a k (e:=.ret) h
  | exit id=>exact BG.mono a k (e:=.exit id) h
  | goto t=>exact BG.mono a k (e:=.goto t) h
  | panic c=>exact BG.mono a k (e:=.panic c) h
  | outgrown=>exact BG.mono a k (e:=.outgrown) h
 | .loopN m b::k,e,S,Y,h=>by
  cases e with
  | normal=>exact Ht.mono (λ_ _ _ h=>BG.mono a k h) m h
  | ret=>exact BG.mono a k (e:=.ret) h
  | exit id=>exact BG.mono a k (e:=.exit id) h
  | goto t=>exact BG.mono a k (e:=.goto t) h
  | panic c=>exact BG.mono a k (e:=.panic c) h
  | outgrown=>exact BG.mono a k (e:=.outgrown) h
end
def wb {X:Type}(A f:Option (List X)):Option (List X):=A.bind λa=>f.map λb=>a++b
def wx {X:Type}(x:X)(A:Option (List X)):Option (List X):=A.map λb=>x::b
variable {X:Type}
theorem zBM {A f:Option (List X)}{r:List X}(h:wb A f=some r): ∃ a b,A=some a/\ f=some b/\ r=a++b:=by
 obtain ⟨a,ha,h⟩:=Gq h
 simp_all [TO]
def DW {X:Type}(C:EN Tryz.prog)(enc:X -> List DV)(i:Nat)(r:List X):Prop:=∃ rest,C.encs.drop i=r.map enc++rest
variable {i:Nat}
def zS {α:Type}{l a b:List α}(h:l.drop i=a++b):l.drop (i+a.length)=b:=by
 rw [←List.drop_drop,h,List.drop_left'];rfl
variable {C:EN Tryz.prog}
theorem DW.split {enc:X -> List DV}{y b:List X}(h:DW C enc i (y++b)):(∃ rest,C.encs.drop i=y.map enc++rest)/\ DW C enc (i+(y.map enc).length) b:=by
 obtain ⟨rest,h⟩:=h;have h:C.encs.drop i=y.map enc++(b.map enc++rest):=Z4
 exact ⟨⟨_,h⟩,rest,zS h⟩
def DW.cons {enc:X -> List DV}{x:X}{b:List X}(h:DW C enc i (x::b)):C.encs[i]? =some (enc x)/\ DW C enc (i+1) b:=by
 obtain ⟨rest,h⟩:=h;have h:C.encs.drop i=enc x::(b.map enc++rest):=h;refine ⟨?_,rest,?_⟩
 ·have:=congrArg (·[0]?) h;simpa using this
 ·have:=zS (a:=[enc x]) h;simpa using this
section
variable {X:Type} {C:EN Tryz.prog} {tD:Bool -> DV} {fn:Func} {L:Nat} {ρ0:List AK} {H:DH} {i:Nat} {r:List X} {enc:X -> List DV} {k K:List KI} {S:St} {ops:Array Oper}
 {c:List (DV×DH×Bool)} {o:List (Nat×DV)} {z:List (Nat×Fz)} {v:List Prop} {fr:List DV} {h1:DH} {l l1 l2:Θ} {p:Nat} {dst:Option Tmp}
abbrev WF (C:EN Tryz.prog)(tD:Bool -> DV)(fn:Func)(L:Nat)(ρ0:List AK)(H:DH)(i:Nat)(r:List X):QY Tryz.prog GG L:=YQW C GG tD fn L (i+r.length) ρ0 H
abbrev Ra (C:EN Tryz.prog)(tD:Bool -> DV)(fn:Func)(L:Nat)(ρ0:List AK)(H:DH)(ops:Array Oper)(l:Θ)(k:List KI)(i:Nat)(r:List X)(S:St):Prop:= Di Tryz.prog GG (C.K GG L (.go i) ρ0) ops l S (BG Tryz.prog GG Fence.wide none L (WF C tD fn L ρ0 H i r) k)
abbrev RV (C:EN Tryz.prog)(tD:Bool -> DV)(fn:Func)(L:Nat)(ρ0:List AK)(H:DH)(k:List KI)(i:Nat)(r:List X)(S:St):Prop:= A5 Tryz.prog GG Fence.wide none L (C.K GG L (.go i) ρ0) (WF C tD fn L ρ0 H i r) k S
abbrev TSW (C:EN Tryz.prog)(tD:Bool -> DV)(fn:Func)(L:Nat)(ρ0:List AK)(H:DH)(k:List KI)(S:St):Prop:= BI Tryz.prog GG Fence.wide none L (C.K GG L .stop ρ0) (Cp Tryz.prog fn L (tD false) H) k S
theorem WF.app {y b:List X}{j:Nat}(hj:j=i+y.length):WF C tD fn L ρ0 H i (y++b)=WF C tD fn L ρ0 H j b:=by
 grind
theorem WF.pan {fr:List DV}{h:DH}(j:Nat.ble L h.length=true)(f:jl L h=H)(e:List PanicEntry):WF C tD fn L ρ0 H i r (.panic e) ⟨fr,h⟩ (C.K GG L (.pan e) ρ0):=
 .inr (.inr ⟨e,rfl,rfl,_,A7.compact (List.range L) ⟨fr,h⟩ List.nodup_range (λk hk=>zCD (zIN.1 hk) (zJr j)) (λk hk=>by simp [hk]),f⟩)
def wO (l:Pn K=some (ops,Em K):=by kernel_rfl)(hk:Ra C tD fn L ρ0 H ops (List.range ops.size) (Em K) i r S):RV C tD fn L ρ0 H K i r S:=by
 unfold Pn at l;split at l
 ·rename_i id w k;have B:w=ops:=congrArg Prod.fst (zA2 l);subst B;exact Tr.ofO hk
 ·cases l
def w0 (hk:RV C tD fn L ρ0 H k i r S):Ra C tD fn L ρ0 H ops [] k i r S:=λN ρ _ _ R y m=>⟨S,ρ,N,_,hk,R,y,m,Bd.none⟩
def wE (a:HS c o z v)(fr:List DV)(h1:DH)(hk:RV C tD fn L ρ0 H k i r ⟨fr,h1⟩)(h:(EL Tryz.prog GG ops (CM ops l) S ⟨c,o,z,[]⟩).map (bu (Gh 0 fr))=some (fr,h1,v):=by kernel_rfl)(u:Ct ops=true:=by kernel_rfl)(n:XM k=true:=by kernel_rfl):Ra C tD fn L ρ0 H ops l k i r S:=by
 obtain ⟨f,An,h,e⟩:=vY h;refine Di.done (HC.x (F:=Fence.wide)).f u h a.all (A5.leH (S':=⟨fr,h1⟩) ?_ n hk);rw [e];exact A7.forget _ _ _
def wS (a:HS c o z v)(fr:List DV)(h1:DH)(hk:TSW C tD fn L ρ0 H k ⟨fr,h1⟩)(h:(EL Tryz.prog GG ops (CM ops l) S ⟨c,o,z,[]⟩).map (bu (Gh 0 fr))=some (fr,h1,v):=by kernel_rfl)(u:Ct ops=true:=by kernel_rfl)(n:XM k=true:=by kernel_rfl):Di Tryz.prog GG (C.K GG L .stop ρ0) ops l S (BG Tryz.prog GG Fence.wide none L (WF C tD fn L ρ0 H i r) k):=by
 obtain ⟨f,An,h,e⟩:=vY h;refine Di.done (HC.x (F:=Fence.wide)).f u h a.all (BG.mono (Q:=stay (C.K GG L .stop ρ0) (Cp Tryz.prog fn L (tD false) H)) (λe S Y b=>.inr (.inl b)) k (A5.leH (S':=⟨fr,h1⟩) ?_ n hk));rw [e];exact A7.forget _ _ _
def w0S (hk:TSW C tD fn L ρ0 H k S):Di Tryz.prog GG (C.K GG L .stop ρ0) ops [] S (BG Tryz.prog GG Fence.wide none L (WF C tD fn L ρ0 H i r) k):=λN ρ _ _ R y m=>⟨S,ρ,N,_,BG.mono (Q:=stay (C.K GG L .stop ρ0) (Cp Tryz.prog fn L (tD false) H)) (λe S Y a=>.inr (.inl a)) k hk,R,y,m,Bd.none⟩
variable {A:Option (List X)}
def wY {x:X}{xs:List DV}(l1 l2:Θ)(p:Nat)(a:HS c o z v)(fr:List DV)(h1:DH)(dst:Option Tmp)(E:wx x A=some r)(j:DW C enc i r)(w:Jg xs (enc x)) 
 (d: ∀ r:List X,Di Tryz.prog GG (C.K GG L .stop ρ0) ops l2 ⟨Cn fr dst (.bool false),h1⟩ (BG Tryz.prog GG Fence.wide none L (WF C tD fn L ρ0 H i r) k))
 (hk: ∀ b Q,A=some b -> DW C enc Q b -> Ra C tD fn L ρ0 H ops l2 k Q b ⟨Cn fr dst (.bool true),h1⟩)
 (e:l=l1++p::l2:=by kernel_rfl) (h:(gF Tryz.prog GG ops l1 p S ⟨c,o,z,[]⟩).map (jq (Gh 0 fr))=some (xs,C.l,dst,fr,h1,v):=by kernel_rfl) (g:jl L h1=H:=by kernel_rfl) (m:Nat.ble L h1.length=true:=by kernel_rfl) (u:Ct ops=true:=by kernel_rfl):Ra C tD fn L ρ0 H ops l k i r S:=by
 subst e;obtain ⟨b,n,rfl⟩:=TO E;obtain ⟨q,s⟩:=DW.cons j;obtain ⟨f1,An,hy,N⟩:=zHh h;refine Di.yieldW (HC.x (F:=Fence.wide)).f u hy a.all q w ?_ (Di.weaken (Zd N) (d _)) λc=>QB (WF.pan m g c) k
 have e:WF C tD fn L ρ0 H i (x::b)=WF C tD fn L ρ0 H (i+1) b:=WF.app (y:=[x]) rfl;rw [e];exact Di.weaken (Zd N) (hk _ _ n s)
theorem wC {g:FuncId}{ds:Nat -> List DV}{h:Nat -> DH}{tD':Bool -> DV}{f:Option (List X)}(l1 l2:Θ)(p:Nat)(q:HS c o z v)(fr:List DV)(h1:DH)(dst:Option Tmp) 
 (E:wb A f=some r) (s:DW C enc i r) (t: ∀ a,A=some a -> YW Tryz.prog GG tD' g ds h (a.map enc))
 (u: ∀ (j:Nat) (r:List X),Di Tryz.prog GG (C.K GG L .stop ρ0) ops l2 ⟨Cn fr dst (tD' false),h1⟩ (BG Tryz.prog GG Fence.wide none L (WF C tD fn L ρ0 H j r) k))
 (hk: ∀ b Q,f=some b -> DW C enc Q b -> Ra C tD fn L ρ0 H ops l2 k Q b ⟨Cn fr dst (tD' true),h1⟩)
 (e:l=l1++p::l2:=by kernel_rfl) (n:(YD Tryz.prog GG ops l1 p S ⟨c,o,z,[]⟩).map (bs (Gh 0 fr))=some (g,ds C.l,dst,fr,h1,v):=by kernel_rfl) (d:h1.take (h C.l).length=h C.l:=by kernel_rfl)
 (G:(h C.l).all (UO (h C.l).length)=true:=by kernel_rfl) (w:(ds C.l).all (CP (h C.l).length)=true:=by kernel_rfl) (hp:jl L h1=H:=by kernel_rfl) (hL:Nat.ble L h1.length=true:=by kernel_rfl) (y:Ct ops=true:=by kernel_rfl):Ra C tD fn L ρ0 H ops l k i r S:=by
 subst e;obtain ⟨f1,An,n,N⟩:=vX n;obtain ⟨a,b,B,D,rfl⟩:=zBM E;obtain ⟨I,J⟩:=DW.split s;have m:h C.l++h1.drop (h C.l).length=h1:=(zI d).symm;refine Di.callW (T:=h1.drop (h C.l).length) (HC.x (F:=Fence.wide)).f y n q.all (t a B) (zI d) G w I ?_ ?_ λc=>?_
 ·rw [WF.app (j:=i+(a.map enc).length) (by rw [zJu]),m];exact Di.weaken (Zd N) (hk _ _ D J)
 ·rw [m];exact Di.weaken (Zd N) (u _ _)
 grind [QB,WF.pan]
def wF (h:BI Tryz.prog GG Fence.wide none L (C.K GG L (.go i) ρ0) (Cp Tryz.prog fn L (tD true) H) k S):RV C tD fn L ρ0 H k i ([]:List X) S:=
 BG.mono (Q:=stay (C.K GG L (.go i) ρ0) (Cp Tryz.prog fn L (tD true) H)) (λe S Y a=>.inl a) k h
end
theorem YW.ofW {X:Type}{f L:Nat}{fn:Func}{tD:Bool -> DV}{r:List X}{enc:X -> List DV}{ds:Nat -> List DV}{h:Nat -> DH}(O:Tryz.prog.funcs[f]? =some fn) 
 (T: ∀ (C:EN Tryz.prog) (i:Nat) (ρ0:List AK),DW C enc i r -> RV C tD fn L ρ0 (h C.l) [.code (Ac fn)] i r ⟨ds C.l++List.replicate (fn.ntmps-(ds C.l).length) .any,h C.l⟩)
 (c:fn.body.isSome=true:=by kernel_rfl) (u:(fn.name== "runtime.NumGoroutine")=false:=by kernel_rfl) (j: ∀ l,(h l).length=L:=by intro;kernel_rfl):YW Tryz.prog GG tD f ds h (r.map enc):=
 YW.of O c u j λC i ρ0 a=>by
  have:=T C i ρ0 a
  grind
end
section
set_option maxRecDepth 100000
set_option maxHeartbeats 40000000
def zEM:Ae (A0 Tryz.f29 12) [] (List.range 7) []:=Z0
def Pg:BF:=λi=>match i with
 | 12=>.ord [] (List.range 7) []
 | _=>.no
inductive fO where
 | l1 (AQ Ce JI:Int)
def UP (n:Nat)(self:fO -> X8)(pos:Ξ)(k a E:Int):X8:= bif (decide (k<(pos.length:Int))) then if 0<=k/\ k<(pos.length:Int) then (VK n (pos.getD k.toNat 0)).bind λe=> bif (e==0) then some (0,false) else bif (decide (e>1)) then bif ((a==0)&&((E==0)&&true)) then if AG (k+1) then self (.l1 (k+1) e k) else none else bif (decide (e<a)) then if AG (k+1) then self (.l1 (k+1) e k) else none else if AG (k+1) then self (.l1 (k+1) a E) else none else if AG (k+1) then self (.l1 (k+1) a E) else none else none else some (E,(!((a==0)&&((E==0)&&true))))
def zOP (n:Nat)(self:fO -> X8)(pos:Ξ):X8:= self (.l1 0 0 0)
def PA (pos:Ξ):Nat -> fO -> X8
 | 0,_=>none
 | n+1,.l1 k a E=>UP n (PA pos n) pos k a E
def YL (n:Nat)(pos:Ξ):X8:=zOP n (PA pos n) pos
def zOQ (n B:Nat)(N:Yd 0)(pos:Ξ)(r:Int×Bool):fO -> Prop:=px n B Fence.wide N (FQ Tryz.f29 0 (.tup 2 (L1 [.i r.1,.bool r.2])) []) (Ac Tryz.f29) λ
 | .l1 k a E=>(0,0,AH 44 [(4,.ref 0 0),(10,.ints pos),(11,.i (pos.length:Int)),(12,.i k)],[oC [.i a,.i E]])
def zOR (B:Nat)(N:Yd 0)(pos:Ξ):Al (PA pos) (zOQ · B N pos):=ia (λ_=>rfl) λn w a r h=>by
 cases a
 case l1 AQ Ce JI=>
  intro m k;refine rd k λm k=>?_
  revert r;apply gO;exact bi 13 (gi (cf zCZ [oC [.i Ce,.i JI]] λ_=>bi 20 (lE Pg [2,3] []) (jt (bi 25 (bi 29 (jt (gw 38 (lG Pg [0] (w _ _ · m k)))) (jg (by decide:(0:Int)<=0/\ 0<((2:Nat):Int)) (bi 34 (jt (gw 38 (lG Pg [0] (w _ _ · m k)))) (gw 38 (lG Pg [0] (w _ _ · m k)))))) (gw 38 (lG Pg [0] (w _ _ · m k))))))) (jg zEM (jg (by decide:(0:Int)<=1/\ 1<((2:Nat):Int)) (lE Pg [2,3] [])))
variable {pos:Ξ}{n:Nat}
def zp {r:Int×Bool}(h:YL n pos=some r):EQ 29 [.ints pos] [] (.tup 2 (L1 [.i r.1,.bool r.2])) [] true:=by
 refine ot Tryz.func29 λB N=>?_
 revert r;apply gO;exact jt (lN Pg [0] ((zOR B N pos n) _ _ · n Nat.le.refl))
def zq (n:Nat)(q:AA)(pos:Ξ):X2:= (Fd n q pos).bind λe=> bif (e != 0) then some (0,false,e) else (YL n pos).bind λx=> some (x.1,x.2,0)
def NE (n:Nat)(q:AA)(pos:Ξ):X2:=zq n q pos
def YM {q:AA}{r:Int×Bool×Int}(h:NE n q pos=some r):EQ 14 [.agg 5 (L1 (AE q)),.ints pos] [] (.tup 3 (L1 [.i r.1,.bool r.2.1,.i r.2.2])) [] true:=by
 unfold NE zq at h;refine ot Tryz.func14 λB N=>?_
 revert r;apply gO;exact cf MY [oC (AE q)] λ_=>bi 12 (lE AD [4,5,6] []) (cf zp [oC (AE q)] λ_=>lE AD [4,5,6] [])
abbrev BP:=(Δ)×Ξ
def UF (x:BP):List DV:=[.agg 2 (L1 [.i x.1.1,.i x.1.2]),.ints x.2]
def gR (pos:Ξ):Nat -> List DV:=λ_=>[.ints pos,.ref 0 0,.ref 2 0,.ref 3 0]
def Cz (q:AA)(pos0:Ξ):Nat -> DH:=λl=>[some (.ro (AE q)),some (.ro [.ints pos0]),some (.ro [.yl l]),some (.ro [.fn 50 3 (L1 [.ref 0 0,.ref 2 0,.ref 3 0])])]
def Ro (b:Bool):DV:=.bool b
abbrev L9:=Ξ -> AA -> Ξ -> Option (List BP)
def Rq (f:L9):Prop:=∀ (pos:Ξ) (q:AA) (pos0:Ξ) (r:List BP),f pos q pos0=some r -> YW Tryz.prog GG Ro 50 (gR pos) (Cz q pos0) (r.map UF)
inductive NY where
 | l1 (Fn:Ξ) (Gv E0:Int)
 | l2 (x10:Ξ) (Ak Ej:Int)
def PS (n:Nat)(Am:L9)(self:NY -> Option (List BP))(pos:Ξ)(q:AA)(pos0:Ξ)(Fn:Ξ)(F W:Int):Option (List BP):= bif (decide (W<F)) then if 0<=W/\ W<(Fn.length:Int) then wx ((1,Fn.getD W.toNat 0),([]:Ξ)) (if AG (W+1) then self (.l1 Fn F (W+1)) else none) else none else (Yc n q pos 4).bind λe=> (G9 n e.1).bind λx=> bif x then wx ((3,0),([]:Ξ)) (some []) else (ZV n e.1).bind λy3=> bif y3.2 then wx ((4,0),y3.1) (some []) else (YL n e.1).bind λm=> wx ((2,m.1),([]:Ξ)) (self (.l2 e.1 m.1 0))
def Rp (n:Nat)(N:L9)(self:NY -> Option (List BP))(pos:Ξ)(q:AA)(pos0:Ξ)(x10:Ξ)(T z:Int):Option (List BP):= bif (decide (z<q.sy)) then if (0<=T/\ T<(x10.length:Int))/\ (0<=z/\ z<=(IntKind.i64.bits:Int)) then bif ((bits .and .i64 ((x10.getD T.toNat 0)/2 ^ (z).toNat) 1)==0) then if AG (z+1) then self (.l2 x10 T (z+1)) else none else (UA n q x10 T z).bind λe=> wb (N e.1 q pos0) (if AG (z+1) then self (.l2 x10 T (z+1)) else none) else none else some []
def Yx (n:Nat)(Am:L9)(self:NY -> Option (List BP))(pos:Ξ)(q:AA)(pos0:Ξ):Option (List BP):= (b5 n q pos 4).bind λe=> self (.l1 e.1 (e.1.length:Int) 0)
def E2 (N:L9)(pos:Ξ)(q:AA)(pos0:Ξ):Nat -> NY -> Option (List BP)
 | 0,_=>none
 | n+1,.l1 Fn F W=>PS n N (E2 N pos q pos0 n) pos q pos0 Fn F W
 | n+1,.l2 x10 T z=>Rp n N (E2 N pos q pos0 n) pos q pos0 x10 T z
def Uv (C:EN Tryz.prog)(ρ0:List AK)(n:Nat)(pos:Ξ)(q:AA)(pos0:Ξ)(r:List BP):NY -> Prop
 | .l1 Fn F W=>∀ m:Nat,n<=m -> ∀ i:Nat,DW C UF i r -> RV C Ro Tryz.f50 4 ρ0 (Cz q pos0 C.l) (Dx m (Fk (Ac Tryz.f50) 0 [])) i r ⟨AH 94 [(0,.ints pos),(1,.ref 0 0),(2,.ref 2 0),(3,.ref 3 0),(25,.ints Fn),(26,.i F),(27,.i W)],[some (.ro (AE q)),some (.ro [.ints pos0]),some (.ro [.yl C.l]),some (.ro [.fn 50 3 (L1 [.ref 0 0,.ref 2 0,.ref 3 0])])]⟩
 | .l2 x10 T z=>∀ m:Nat,n<=m -> ∀ i:Nat,DW C UF i r -> RV C Ro Tryz.f50 4 ρ0 (Cz q pos0 C.l) (Dx m (Fk (Ac Tryz.f50) 2 [])) i r ⟨AH 94 [(1,.ref 0 0),(3,.ref 3 0),(10,.ints x10),(14,.i T),(69,.i q.sy),(70,.i z)],[some (.ro (AE q)),some (.ro [.ints pos0]),some (.ro [.yl C.l]),some (.ro [.fn 50 3 (L1 [.ref 0 0,.ref 2 0,.ref 3 0])])]⟩
def zBQ (C:EN Tryz.prog)(ρ0:List AK)(n:Nat)(N:L9)(CJ:Rq N)(self:NY -> Option (List BP))(pos:Ξ)(q:AA)(pos0:Ξ)(o: ∀ s r,self s=some r -> Uv C ρ0 n pos q pos0 r s)(Fn:Ξ)(F W:Int)(r:List BP)(h:PS n N self pos q pos0 Fn F W=some r):Uv C ρ0 (n+1) pos q pos0 r (.l1 Fn F W):=by
 intro a k;intro i v;refine rd k λa k=>?_
 unfold PS at h;have p:=H0;rcases DN h with ⟨d,h⟩ | ⟨d,h⟩
 ·obtain ⟨t,h⟩:=DE h;have p:=H0.b 28 d |>.g t
  refine gs (AJ 22 (AJ 15 (AJ 13 (AJ 10 (AJ 5 AD))))) [0,1,2,3] p (Dr (Ac Tryz.f50) 5 [a]) (AH 94 [(0,.ints pos),(1,.ref 0 0),(2,.ref 2 0),(3,.ref 3 0),(9,.i (Fn.getD W.toNat 0)),(25,.ints Fn),(26,.i F),(27,.i W)]) (Cz q pos0 C.l) ?_;refine wO (ops:=A0 Tryz.f50 5) Z5 ?_;refine wY (xs:=[.agg 2 (L1 [.i 1,.i (Fn.getD W.toNat 0)]),.nils]) [0,1,2] [4] 3 H0 (AH 94 [(0,.ints pos),(1,.ref 0 0),(2,.ref 2 0),(3,.ref 3 0),(25,.ints Fn),(26,.i F),(27,.i W)]) (Cz q pos0 C.l) (some 34) h v ⟨Ar,AM.ints_nil,trivial⟩ (λr=>?_) λr i h v=>?_
  ·refine wS H0 (AH 94 [(0,.ints pos),(1,.ref 0 0),(2,.ref 2 0),(3,.ref 3 0),(25,.ints Fn),(26,.i F),(27,.i W),(35,.bool true)]) (Cz q pos0 C.l) ?_;have p:=H0;exact ee AD [5] [0,1,2,3] p
  ·refine wE H0 (AH 94 [(0,.ints pos),(1,.ref 0 0),(2,.ref 2 0),(3,.ref 3 0),(25,.ints Fn),(26,.i F),(27,.i W),(35,.bool false)]) (Cz q pos0 C.l) ?_;obtain ⟨u,h⟩:=DE h;have p:=H0.w 36 u;exact gg (AJ 22 (AJ 15 (AJ 13 (AJ 10 (AJ 5 AD))))) [0,1,2,3] p (o _ _ h a k i v)
 ·obtain ⟨e,x,h⟩:=Gq h;obtain ⟨y2,A,h⟩:=Gq h;have p:=H0.b 28 d |>.c (fb (zPW x) (Cz q pos0 C.l)) |>.c (fb (Qa A) (Cz q pos0 C.l))
  rcases DN h with ⟨f,h⟩ | ⟨f,h⟩
  ·have p:=p.b 44 f;refine gs (AJ 22 (AJ 15 (AJ 13 (AJ 10 (AJ 5 AD))))) [0,1,2,3] p (Dr (Ac Tryz.f50) 10 []) (AH 94 [(2,.ref 2 0)]) (Cz q pos0 C.l) ?_;refine wO (ops:=A0 Tryz.f50 10) Z5 ?_;refine wY (xs:=[.agg 2 (L1 [.i 3,.i 0]),.nils]) [0,1] [3] 2 H0 (AH 94 []) (Cz q pos0 C.l) (some 47) h v ⟨Ar,AM.ints_nil,trivial⟩ (λr=>?_) λr i h v=>?_
   ·refine wS H0 (AH 94 [(5,.bool false)]) (Cz q pos0 C.l) ?_;have p:=H0;exact ee AD [5] [0,1,2,3] p
   ·refine wE H0 (AH 94 [(5,.bool true)]) (Cz q pos0 C.l) ?_;have p:=H0;cases h;exact wF (ee (AJ 22 (AJ 15 (AJ 13 (AJ 10 (AJ 5 AD))))) [5] [0,1,2,3] p)
  ·obtain ⟨y3,y,h⟩:=Gq h;have p:=p.b 44 f |>.c (fb (zCI y) (Cz q pos0 C.l))
   rcases DN h with ⟨j,h⟩ | ⟨j,h⟩
   ·have p:=p.b 52 j;refine gs (AJ 22 (AJ 15 (AJ 13 (AJ 10 (AJ 5 AD))))) [0,1,2,3] p (Dr (Ac Tryz.f50) 13 []) (AH 94 [(2,.ref 2 0),(12,.ints y3.1)]) (Cz q pos0 C.l) ?_;refine wO (ops:=A0 Tryz.f50 13) Z5 ?_;refine wY (xs:=[.agg 2 (L1 [.i 4,.i 0]),.ints y3.1]) [0,1,2] [4] 3 H0 (AH 94 []) (Cz q pos0 C.l) (some 57) h v ⟨Ar,Ar,trivial⟩ (λr=>?_) λr i h v=>?_
    ·refine wS H0 (AH 94 [(5,.bool false)]) (Cz q pos0 C.l) ?_;have p:=H0;exact ee AD [5] [0,1,2,3] p
    ·refine wE H0 (AH 94 [(5,.bool true)]) (Cz q pos0 C.l) ?_;have p:=H0;cases h;exact wF (ee (AJ 22 (AJ 15 (AJ 13 (AJ 10 (AJ 5 AD))))) [5] [0,1,2,3] p)
   ·obtain ⟨m,z,h⟩:=Gq h;have p:=p.b 52 j |>.c (fb (zp z) (Cz q pos0 C.l))
    refine gs (AJ 22 (AJ 15 (AJ 13 (AJ 10 (AJ 5 AD))))) [0,1,2,3] p (Dr (Ac Tryz.f50) 15 []) (AH 94 [(1,.ref 0 0),(2,.ref 2 0),(3,.ref 3 0),(10,.ints e.1),(14,.i m.1)]) (Cz q pos0 C.l) ?_;refine wO (ops:=A0 Tryz.f50 15) Z5 ?_;refine wY (xs:=[.agg 2 (L1 [.i 2,.i m.1]),.nils]) [0,1,2] [4] 3 H0 (AH 94 [(1,.ref 0 0),(3,.ref 3 0),(10,.ints e.1),(14,.i m.1)]) (Cz q pos0 C.l) (some 66) h v ⟨Ar,AM.ints_nil,trivial⟩ (λr=>?_) λr i h v=>?_
    ·refine wS H0 (AH 94 [(1,.ref 0 0),(3,.ref 3 0),(10,.ints e.1),(14,.i m.1),(67,.bool true)]) (Cz q pos0 C.l) ?_;have p:=H0;exact ee AD [5] [0,1,2,3] p
    ·refine wE H0 (AH 94 [(1,.ref 0 0),(3,.ref 3 0),(10,.ints e.1),(14,.i m.1),(67,.bool false)]) (Cz q pos0 C.l) ?_;have p:=H0;exact gg (AJ 22 (AJ 15 (AJ 13 (AJ 10 (AJ 5 AD))))) [0,1,2,3] p (en n (o _ _ h n Nat.le.refl i v))
def zBP (C:EN Tryz.prog)(ρ0:List AK)(n:Nat)(N:L9)(x:Rq N)(self:NY -> Option (List BP))(pos:Ξ)(q:AA)(pos0:Ξ)(j: ∀ o r,self o=some r -> Uv C ρ0 n pos q pos0 r o)(x10:Ξ)(T z:Int)(r:List BP)(h:Rp n N self pos q pos0 x10 T z=some r):Uv C ρ0 (n+1) pos q pos0 r (.l2 x10 T z):=by
 intro m k;intro i v;refine rd k λm k=>?_
 unfold Rp at h;have p:=H0;rcases DN h with ⟨d,h⟩ | ⟨d,h⟩
 ·obtain ⟨⟨W,t⟩,h⟩:=DE h;have p:=H0.b 71 d |>.g W |>.g t
  rcases DN h with ⟨e,h⟩ | ⟨e,h⟩
  ·obtain ⟨f,h⟩:=DE h;have p:=p.b 80 e |>.w 93 f
   exact gg (AJ 22 (AJ 15 (AJ 13 (AJ 10 (AJ 5 AD))))) [0,1,2,3] p (j _ _ h m k i v)
  ·obtain ⟨s,u,h⟩:=Gq h;have p:=p.b 80 e |>.c (fb (zMy u) (Cz q pos0 C.l))
   refine gs (AJ 22 (AJ 15 (AJ 13 (AJ 10 (AJ 5 AD))))) [0,1,2,3] p (Dr (Ac Tryz.f50) 22 [m]) (AH 94 [(1,.ref 0 0),(3,.ref 3 0),(10,.ints x10),(14,.i T),(17,.ints s.1),(69,.i q.sy),(70,.i z)]) (Cz q pos0 C.l) ?_;refine wO (ops:=A0 Tryz.f50 22) Z5 ?_;refine wC (ds:=gR s.1) (h:=Cz q pos0) (tD':=Ro) [0,1] [3] 2 H0 (AH 94 [(1,.ref 0 0),(3,.ref 3 0),(10,.ints x10),(14,.i T),(69,.i q.sy),(70,.i z)]) (Cz q pos0 C.l) (some 91) h v (λa K=>x _ _ _ a K) (λi r=>?_) λr i h v=>?_
   ·refine wS H0 (AH 94 [(1,.ref 0 0),(3,.ref 3 0),(10,.ints x10),(14,.i T),(69,.i q.sy),(70,.i z),(92,.bool true)]) (Cz q pos0 C.l) ?_;have p:=H0;exact ee AD [5] [0,1,2,3] p
   ·refine wE H0 (AH 94 [(1,.ref 0 0),(3,.ref 3 0),(10,.ints x10),(14,.i T),(69,.i q.sy),(70,.i z),(92,.bool false)]) (Cz q pos0 C.l) ?_;obtain ⟨f,h⟩:=DE h;have p:=H0.w 93 f;exact gg (AJ 22 (AJ 15 (AJ 13 (AJ 10 (AJ 5 AD))))) [0,1,2,3] p (j _ _ h m k i v)
 ·have p:=H0.b 71 d;cases h;exact wF (ee (AJ 22 (AJ 15 (AJ 13 (AJ 10 (AJ 5 AD))))) [5] [0,1,2,3] p)
def gU (C:EN Tryz.prog)(ρ0:List AK)(N:L9)(x:Rq N)(pos:Ξ)(q:AA)(pos0:Ξ): ∀ (n:Nat) (m:NY) (r:List BP),E2 N pos q pos0 n m=some r -> Uv C ρ0 n pos q pos0 r m
 | 0,_,_,h=>by cases h
 | n+1,.l1 Fn F W,r,h=>zBQ C ρ0 n N x (E2 N pos q pos0 n) pos q pos0 (gU C ρ0 N x pos q pos0 n) Fn F W r h
 | n+1,.l2 x10 T z,r,h=>zBP C ρ0 n N x (E2 N pos q pos0 n) pos q pos0 (gU C ρ0 N x pos q pos0 n) x10 T z r h
def El:Nat -> Ξ -> AA -> Ξ -> Option (List BP)
 | 0,_,_,_=>none
 | n+1,pos,q,pos0=>Yx n (El n) (E2 (El n) pos q pos0 n) pos q pos0
def zBO {N:L9}(x:Rq N):Rq (λpos q pos0=>Yx n N (E2 N pos q pos0 n) pos q pos0):=λpos q pos0 r h=>YW.ofW (L:=4) (h:=Cz q pos0) (tD:=Ro) Tryz.func50 (λC i ρ0 v=>by
 replace h:Yx n N (E2 N pos q pos0 n) pos q pos0=some r:=h;have w:=(gU C ρ0 N x pos q pos0 n);unfold Yx at h
 generalize E2 N pos q pos0 n=self at h w
 obtain ⟨y1,a,h⟩:=Gq h;have p:=H0.c (fb (zHp a) (Cz q pos0 C.l));exact gg (AJ 22 (AJ 15 (AJ 13 (AJ 10 (AJ 5 AD))))) [0,1,2,3] p (en n (w _ _ h n Nat.le.refl i v)))
def pj: ∀ n,Rq (El n)
 | 0=>λ_ _ _ r h=>by cases h
 | n+1=>zBO (pj n)
def zIC:Nat -> List DV:=λl=>[.yl l,.ref 0 0,.ref 1 0]
def QG (q:AA)(pos0:Ξ):Nat -> DH:=λ_=>[some (.ro (AE q)),some (.ro [.ints pos0])]
def kF (b:Bool):DV:=Ry
abbrev zIE:=AA -> Ξ -> Option (List BP)
def zID (f:zIE):Prop:=∀ (q:AA) (pos0:Ξ) (r:List BP),f q pos0=some r -> YW Tryz.prog GG kF 49 (zIC) (QG q pos0) (r.map UF)
def kG (n:Nat)(q:AA)(pos0:Ξ):Option (List BP):= wb (El n pos0 q pos0) (some [])
def OQ (n:Nat)(q:AA)(pos0:Ξ):Option (List BP):=kG n q pos0
def zIB :zID (OQ n):=λq pos0 r h=>YW.ofW (L:=2) (h:=QG q pos0) (tD:=kF) Tryz.func49 (λC i ρ0 v=>by
 replace h:kG n q pos0=some r:=h;unfold kG at h;have p:=H0.t;refine gs (AJ 3 AD) [0,1,2,3] p (Dr (Ac Tryz.f49) 3 []) (AH 9 [(2,.ref 1 0),(4,.ref 3 0)]) (QG q pos0 C.l++[oC [.yl C.l],oC [.fn 50 3 (L1 [.ref 0 0,.ref 2 0,.ref 3 0])]]) ?_;refine yro [2,3] (QG q pos0 C.l++[some (.ro [.yl C.l]),some (.ro [.fn 50 3 (L1 [.ref 0 0,.ref 2 0,.ref 3 0])])]) ?_;refine wO (ops:=A0 Tryz.f49 3) Z5 ?_;refine wC (ds:=gR pos0) (h:=Cz q pos0) (tD':=Ro) [0,1] [] 2 H0 (AH 9 []) (QG q pos0 C.l++[some (.ro [.yl C.l]),some (.ro [.fn 50 3 (L1 [.ref 0 0,.ref 2 0,.ref 3 0])])]) (some 8) h v (λa K=>pj n _ _ _ a K) (λi r=>?_) λr i h v=>?_
 ·refine w0S ?_;have p:=H0;exact ee AD [] [0,1] p
 ·refine w0 ?_;have p:=H0;cases h;exact wF (ee (AJ 3 AD) [] [0,1] p))
end
section
variable {k:Nat}{x:Int}
def zCg (h:Sm k x):B4 x k= []:=by
 unfold B4;rw [List.filter_eq_nil_iff];intro s l;have:=List.mem_range'_1.1 l;rw [h.hi this.1];decide
def zCY (hk:k<=16)(h:Sm k x):Sm 16 x:=
 VI Z6 (h.in64 Z2) λi hi _=>h.hi Z2
def rn {i:Nat}:(B4 x i).Nodup:=List.Nodup.sublist List.filter_sublist List.nodup_range'
def DR (p:Ξ)(k:Nat):Nat:=(B4 (p.getD k 0) 0).length
def Bh (p:Ξ):Nat -> Nat×Nat
 | 0=>(0,0)
 | k+1=>if 1<DR p k/\ (Bh p k=(0,0)∨DR p k<(Bh p k).1) then (DR p k,k) else Bh p k
def KC (i:Int):BP:=((1,i),[])
inductive Sr (q:AA):Option (Nat×Θ) -> Ξ -> List BP -> Prop
 | dead {p x o:Ξ}:Hu q p 4 (o,0) -> Fa q 4 p x -> BJ x=true -> Sr q none p (o.map KC++[((3,0),[])])
 | done {p x o g:Ξ}:Hu q p 4 (o,0) -> Fa q 4 p x -> BJ x=false -> Cq x=some g -> Sr q none p (o.map KC++[((4,0),g)])
 | split {p x o:Ξ} {c:Nat} {l:List BP}:Hu q p 4 (o,0) -> Fa q 4 p x -> BJ x=false -> Cq x=none -> c=(Bh x x.length).2 -> c<x.length -> 2<=DR x c -> Sr q (some (c,B4 (x.getD c 0) 0)) x l -> Sr q none p (o.map KC++((2,(c:Int)),[])::l)
 | nil {x:Ξ} {c:Nat}:Sr q (some (c,[])) x []
 | cons {x:Ξ} {c s:Nat} {ss:Θ} {a b:List BP}:Sr q none (II x c s) a -> Sr q (some (c,ss)) x b -> Sr q (some (c,s::ss)) x (a++b)
section
variable {q:AA} {p x pos0 o:Ξ} {c s:Nat}
def A4.sm16 (h:A4 q x)(j:Nat)(i:j<x.length):Sm 16 (x.getD j 0):=zCY h.k (h.sm j i)
theorem gy (h:A4 q x){j:Nat}(i:j<x.length):0<DR x j↔x.getD j 0≠0:=by
 rw [GC (h.in64 j),DR,List.length_pos_iff_exists_mem];constructor
 ·grind [QM]
 ·rintro ⟨s,_,l⟩;refine ⟨s,QM.2 ⟨zJq λw=>?_,l⟩⟩;rw [(h.sm16 j i).hi w] at l;cases l
theorem oB: ∀ k,(Bh x k=(0,0)/\ ∀ j,j<k -> DR x j<=1)∨(2<=(Bh x k).1/\ (Bh x k).2<k/\ DR x (Bh x k).2=(Bh x k).1)
 | 0=>.inl ⟨rfl,λj i=>absurd i (zA6 j)⟩
 | k+1=>by
  unfold Bh;split
  ·grind
  ·rename_i h;rcases oB k with ⟨a,b⟩ | ⟨a,b,h3⟩
   ·grind
   grind
theorem rS: ∀ {l:Ξ},(∀ j,j<l.length -> DR l j=1) -> ∃ g,Cq l=some g
 | [],_=>⟨[],rfl⟩
 | x::l,h=>by
  obtain ⟨g,hg⟩:=rS (l:=l) λj i=>h (j+1) (by simpa using i)
  have h0:=h 0 Z3
  grind [List.length_eq_one_iff,Cq,DR]
theorem zu (h:A4 q x)(hd:BJ x=false)(a:Cq x=none):Bh x x.length≠(0,0)/\ (Bh x x.length).2<x.length/\ 2<=DR x (Bh x x.length).2:=by
 rcases oB (x:=x) x.length with ⟨_,b⟩ | ⟨h1,b,h3⟩
 ·obtain ⟨g,n⟩:=rS (l:=x) λj hj=>by
   grind [gy,Fh]
  rw [n] at a;cases a
 grind
theorem zn (h:A4 q x): ∀ (k j:Nat),j+k=x.length -> (∀ i,i<j -> x.getD i 0≠0) -> Ev (λn=>PA x n (.l1 (j:Int) ((Bh x j).1:Int) ((Bh x j).2:Int))) (if BJ x then (0,false) else (((Bh x x.length).2:Int),decide (Bh x x.length≠(0,0))))
 | 0,j,e,P=>by
  have v:BJ x=false:=Fh.2 λi hi=>P i Z2
  refine Ev.one λn=>?_
  show UP n (PA x n) x (j:Int) _ _=_
  unfold UP;have e:j=x.length:=Z2
  rw [zAF Z2,zAz,v,zEO Z6,e]
  congr 2
  grind
 | k+1,j,e,P=>by
  have a:j<x.length:=Z2
  have h256:=h.len256;obtain ⟨N,W⟩:=zCa (h.sm16 j a);have W: ∀ n,N<=n -> VK n (x.getD j 0)=some ((DR x j:Nat):Int):=W
  by_cases h0:x.getD j 0=0
  ·have v:BJ x=true:=by
    grind [Fh]
   have l:DR x j=0:=Nat.eq_zero_of_not_pos λf=>(gy h a).1 f h0
   refine Ev.oneN N λn u=>?_
   grind [UP,PA]
  ·have b:=zn h k (j+1) Z2 λi hi=>by
    grind
   have l:DR x j≠0:=λl=>by
    grind [gy]
   refine AV.ev (m:=PA x) (AV.oneN N λn u=>?_) b
   show UP n (PA x n) x (j:Int) _ _=_
   unfold UP;simp only [zAE (show AG ((j:Int)+1) from Aa.2 ⟨Z2,Z2⟩)]
   have E:(((Bh x j).1:Int)==0&&(((Bh x j).2:Int)==0&&true))=decide (Bh x j=(0,0)):=by
    grind
   rw [E,show Bh x (j+1)=if 1<DR x j/\ (Bh x j=(0,0)∨DR x j<(Bh x j).1) then (DR x j,j) else Bh x j from rfl]
   grind
def zo (h:A4 q x):Ev (λn=>YL n x) (if BJ x then (0,false) else (((Bh x x.length).2:Int),decide (Bh x x.length≠(0,0)))):=
 (zn h x.length 0 Z2 λi hi=>absurd hi (zA6 i)).eq λ_=>rfl
theorem yh (h:A4 q x)(n:c<x.length)(a:s<q.sy.toNat){l t:Nat}(ht:tb ((II x c s).getD l 0) t=true):tb (x.getD l 0) t=true/\ (l=c -> t=s):=by
 obtain ⟨z1,z2⟩:=yg h.valid h.ok n a
 grind [II,Js]
def A4.fx (h:A4 q x)(n:c<x.length)(l:s<q.sy.toNat):A4 q (II x c s):=⟨h.fit,h.valid,zMs h.valid h.ok n l⟩
theorem zMr (h:A4 q x)(n:c<x.length)(d:s<q.sy.toNat)(f:2<=DR x c):wt (II x c s)<wt x:=by
 refine Rm (h.fx n d) h (λj t V=>(yh h n d V).1) λe=>?_
 have all: ∀ t∈B4 (x.getD c 0) 0,t=s:=λt V=>by
  have:=(QM.1 V).2;rw [←e] at this;exact (yh h n d this).2 rfl
 have nd:=rn (x:=x.getD c 0) (i:=0);unfold DR at f
 generalize B4 (x.getD c 0) 0=l at*
 match l,f with
 | a::b::l,_=>
  simp_all
theorem rD (h:A4 q x)(d:c<x.length)(g: ∀ s,s<q.sy.toNat -> ∃ l,Sr q none (II x c s) l/\ Ev (λn=>El n (II x c s) q pos0) l):
 ∀ (k j:Nat),j+k=q.sy.toNat -> ∃ l,Sr q (some (c,B4 (x.getD c 0) j)) x l/\ ∃ N,∀ n m,N<=n -> N<=m -> E2 (El m) p q pos0 n (.l2 x (c:Int) (j:Int))=some l
 | 0,j,e=>by
  have f:=h.sm c d;refine ⟨[],?_,1,λn m u _=>?_⟩
  ·rw [show j=q.sy.toNat by omega,zCg f];exact .nil
  ·obtain ⟨n,rfl⟩: ∃ k,n=k+1:=⟨n-1,Z2⟩
   grind [Rp,E2]
 | k+1,j,e=>by
  have f:=h.sm c d;have hk:=h.k;obtain ⟨b,i,N,hN⟩:=rD h d g k (j+1) Z2
  have step: ∀ n m,E2 (El m) p q pos0 (n+1) (.l2 x (c:Int) (j:Int))=bif !tb (x.getD c 0) j then E2 (El m) p q pos0 n (.l2 x (c:Int) ((j+1:Nat):Int)) else (UA n q x c j).bind λo=>wb (El m o.1 q pos0) (E2 (El m) p q pos0 n (.l2 x (c:Int) ((j+1:Nat):Int))):=λn m=>by
   show Rp n (El m) (E2 (El m) p q pos0 n) p q pos0 x (c:Int) (j:Int)=_
   unfold Rp;have r1:AG ((j:Int)+1):=Aa.2 ⟨Z2,Z2⟩;rw [zAC Z2,zAG,zAE ⟨⟨Z2,Z2⟩,Z2,by show (j:Int)<=((64:Nat):Int);omega⟩,u8,u8,rh f Z2 Z2]
   grind
  rw [iT (show j<16 by omega)];cases V:tb (x.getD c 0) j with
  | false=>
   refine ⟨b,i,N+1,λn m u z=>?_⟩;obtain ⟨n,rfl⟩: ∃ k,n=k+1:=⟨n-1,Z2⟩
   grind
  | true=>
   obtain ⟨a,K,M,hM⟩:=g j Z2;refine ⟨a++b,.cons K i,N+M+EU q+301,λn m u z=>?_⟩;obtain ⟨n,rfl⟩: ∃ k,n=k+1:=⟨n-1,Z2⟩;rw [step,V,zMx h.fit h.valid h.ok d Z2 (show EU q+300<=n by omega)]
   grind [wb]
theorem yn {t:List BP}(y:o.length<=20000)(h: ∃ N,∀ n m,N<=n -> N<=m -> E2 (El m) p q pos0 n (.l1 o (o.length:Int) (o.length:Int))=some t):
 ∀ (k j:Nat),j+k=o.length -> ∃ N,∀ n m,N<=n -> N<=m -> E2 (El m) p q pos0 n (.l1 o (o.length:Int) (j:Int))=some ((o.drop j).map KC++t)
 | 0,j,e=>by
  simp_all
 | k+1,j,e=>by
  obtain ⟨N,W⟩:=yn y h k (j+1) Z2;refine ⟨N+1,λn m hn hm=>?_⟩;obtain ⟨n,rfl⟩: ∃ k,n=k+1:=⟨n-1,Z2⟩;have i:j<o.length:=Z2
  show PS n (El m) (E2 (El m) p q pos0 n) p q pos0 o (o.length:Int) (j:Int)=_
  unfold PS;rw [zAC Z2,zAG,zAE ⟨Z2,Z2⟩,zAE (Aa.2 ⟨Z2,Z2⟩),u8,show (j:Int)+1=((j+1:Nat):Int) by omega,W n m Z2 Z2,zI1 i]
  grind [wx,KC]
variable {level:Int}
theorem Hu.zero (f:A4 q p){r:Ξ×Int}(h:Hu q p level r):r.2=0/\ r.1.length<=20000:=by
 rcases h with ⟨b,_⟩ | ⟨_,_,a⟩ | ⟨_,_,a,A,_⟩
 ·exact absurd f.check b
 ·grind
 ·exact ⟨a,A⟩
theorem Fa.posn (f:A4 q p)(h:Fa q level p x):A4 q x/\ Le x p/\ wt x<=wt p:=by
 have key:A4 q x/\ Le x p:=by
  rcases h with ⟨_,rfl⟩ | ⟨_,a,_⟩
  ·exact ⟨⟨f.fit,f.valid,pL f.valid f.ok⟩,λj s hs=>by
    grind [Js]⟩
  ·exact ⟨a.pos zBZ f,a.le⟩
 refine ⟨key.1,key.2,?_⟩
 by_cases e:x=p
 ·rw [e];exact zBT _
 ·have:=Rm key.1 f key.2 e;omega
theorem zPM (f:A4 q p): ∃ x,Ev (λn=>Yc n q p level) (x,0)/\ Fa q level p x:=by
 obtain ⟨⟨x,e⟩,h1,b⟩:=zPN (level:=level) f.fit (zA4 f.len256.2 Z6);rcases b with ⟨h,_⟩ | ⟨_,h,_⟩ | ⟨_,_,h,h4⟩
 ·exact absurd f.check h
 ·cases h
 grind
theorem zBN: ∀ (M:Nat) {p:Ξ},wt p<=M -> A4 q p -> ∃ l,Sr q none p l/\ Ev (λn=>El n p q pos0) l:=by
 intro M
 induction M using Nat.strongRecOn with
 | ind M j=>
  intro p hM f;obtain ⟨⟨o,e⟩,o1,E⟩:=zHl (level:=4) f.fit (zA4 f.len256.2 Z6);obtain ⟨c,y⟩:=E.zero f;have c:e=0:=c;subst c;have y:o.length<=20000:=y;obtain ⟨x,h,P⟩:=zPM (level:=4) f;obtain ⟨d,Qd,hxw⟩:=P.posn f;obtain ⟨A,h⟩:=h;have Z:=d.len256;have Qx: ∀ m,300<=m -> G9 m (x,(0:Int)).1=some (BJ x):=λm z=>OY (zA4 Z.2 Z6) (by show x.length<m;omega)
  obtain ⟨S,B⟩:=zCU (pos:=x) d.sm16 Z.2;have B: ∀ n,S<=n -> ZV n (x,(0:Int)).1=some (EV [] (Cq x)):=B;obtain ⟨C,w⟩:=zo d;have w: ∀ n,C<=n -> YL n (x,(0:Int)).1=_:=w
  have key: ∃ t,Sr q none p (o.map KC++t)/\ ∃ N,∀ n m,N<=n -> N<=m -> E2 (El m) p q pos0 n (.l1 o (o.length:Int) (o.length:Int))=some t:=by
   have step: ∀ n m,A+300+S+C<=n -> E2 (El m) p q pos0 (n+1) (.l1 o (o.length:Int) (o.length:Int))=bif BJ x then some [((3,0),[])] else bif (EV [] (Cq x)).2 then some [((4,0),(EV [] (Cq x)).1)] else wx ((2,((Bh x x.length).2:Int)),[]) (E2 (El m) p q pos0 n (.l2 x ((Bh x x.length).2:Int) 0)):=λn m u=>by
    show PS n (El m) (E2 (El m) p q pos0 n) p q pos0 o (o.length:Int) (o.length:Int)=_
    unfold PS
    grind [wx]
   cases v:BJ x with
   | true=>
    refine ⟨_,.dead E P v,A+300+S+C+1,λn m u _=>?_⟩;obtain ⟨n,rfl⟩: ∃ k,n=k+1:=⟨n-1,Z2⟩
    grind
   | false=>
    cases a:Cq x with
    | some g=>
     refine ⟨_,.done E P v a,A+300+S+C+1,λn m u _=>?_⟩;obtain ⟨n,rfl⟩: ∃ k,n=k+1:=⟨n-1,Z2⟩
     grind [EV]
    | none=>
     obtain ⟨_,b,i⟩:=zu d v a;have r:=λs (a:s<q.sy.toNat)=>j (wt (II x (Bh x x.length).2 s)) (by have:=zMr d b a i;omega) (zBT _) (d.fx b a)
     obtain ⟨l,D,N,l2⟩:=rD (p:=p) (pos0:=pos0) d b r q.sy.toNat 0 Z2;refine ⟨_,.split E P v a rfl b i D,A+300+S+C+N+1,λn m u z=>?_⟩;obtain ⟨n,rfl⟩: ∃ k,n=k+1:=⟨n-1,Z2⟩
     grind [EV,wx]
  obtain ⟨t,F,G⟩:=key;obtain ⟨N,hN⟩:=yn y G o.length 0 Z2;obtain ⟨O,o1⟩:=o1;refine ⟨_,F,N+O+1,λn u=>?_⟩;obtain ⟨n,rfl⟩: ∃ k,n=k+1:=⟨n-1,Z2⟩
  show (b5 n q p 4).bind _=_
  grind
theorem vq (f:A4 q p): ∃ l,Sr q none p l/\ Ev (λn=>OQ n q p) l:=by
 obtain ⟨l,a,N,h2⟩:=zBN (pos0:=p) (wt p) (zBT _) f;refine ⟨l,a,N,λn hn=>?_⟩
 show wb (El n p q p) (some [])=_
 grind [wb]
end
end
section
variable {P:Program} {Γ:Ay} {N:Ψ} {ρ:List AK} {w:World} {hc T:DH}
def hid (K:Nat)(T:DH):DH:=List.replicate K none++T
variable {K:Nat}
theorem XF {k:Nat}{o:DO}(h:(hid K T)[k]? =some (some o)):K<=k/\ ∀ l:DH,l.length=K -> (l++T)[k]? =some (some o):=by
 rcases zKL k K with hk | hk
 ·simp_all [hid,zLT]
 grind [hid]
variable {b:Nat}
theorem MO.hid (h:MO (hid hc.length T) ρ b):MT hc.length (hc++T) ρ b:=by
 obtain ⟨k,o,p,a,c,d⟩:=h;obtain ⟨hk,e⟩:=XF a;exact ⟨k,o,p,hk,e hc rfl,c,d⟩
def MT.mo {h:DH}(x:MT K h ρ b):MO h ρ b:=by
 obtain ⟨k,o,p,_,a,c,d⟩:=x;exact ⟨k,o,p,a,c,d⟩
theorem As.hide (H:As P Γ N (hc++T) ρ w):As P Γ (λb=>N b∨MO hc (ρ.take hc.length) b) (hid hc.length T) ρ w:=by
 have V: ∀ b,MO (hc++T) ρ b↔MO hc (ρ.take hc.length) b∨MT hc.length (hc++T) ρ b:=λb=>by
  have:=MO.split (h:=hc++T) (ρ:=ρ) hc.length b
  rwa [List.take_left'] at this
  rfl
 have d: ∀ b,MO hc (ρ.take hc.length) b -> ¬ MT hc.length (hc++T) ρ b:=by
  rintro b ⟨k,o,p,q,s,x⟩ ⟨g,o',p',a,r,R,U⟩;rw [zP7] at s;split at s
  ·rename_i hk;exact H.dis k g o o' p p' b Z2 Z4 r s R x U
  ·cases s
 have A: ∀ b,MS (λb=>N b∨MO hc (ρ.take hc.length) b) (hid hc.length T) ρ b -> MS N (hc++T) ρ b:=λb hb=>by
  rcases hb with (hb | hb) | hb
  ·exact .inl hb
  ·exact .inr ((V b).2 (.inl hb))
  ·exact .inr (MO.hid hb).mo
 refine ⟨by rw [H.len];simp [hid],λk o hk=>?_,λk o p b a r R=>?_,λi Q o o' p p' b K a r R U D j=>H.dis i Q o o' p p' b K ((XF a).2 hc rfl) ((XF r).2 hc rfl) R U D j,λb hb=>?_,H.gi⟩
 ·obtain ⟨p,l,m⟩:=H.obj k o ((XF hk).2 hc rfl);exact ⟨p,l,m.out (DK A ρ) (S:=λ_=>False) (AS.refl _ _) (λ_ h=>h.elim) λ_ _ _ h=>h⟩
 ·obtain ⟨hk,e⟩:=XF a;obtain ⟨f,n,E⟩:=H.cel k o p b (e hc rfl) r R;exact ⟨f,λhb=>hb.elim n λhb=>d b hb ⟨k,o,p,hk,e hc rfl,r,R⟩,E⟩
 ·rcases hb with hb | hb
  ·exact H.nlt b hb
  ·obtain ⟨k,o,p,q,s,x⟩:=(V b).2 (.inl hb);obtain ⟨f,_,c,t,z,E⟩:=H.cel k o p b q s x
   grind
variable {pv:Value} {gf m:Nat} {cap:Nat -> DV} {JZ:DH} {ys:List (List DV)} {out:Option DV}
end
section
section
variable {P:Program} {Γ:Ay} {N:Ψ} {ρ:List AK} {a:Act} {w:World} {S:St} {Q:Exit -> Act -> World -> Prop} {fr:List DV} {h':DH} {c:List (DV×DH×Bool)} {o:List (Nat×DV)} {z:List (Nat×Fz)} {v v2:List Prop} {id:Nat} {ops:Array Oper}
def bv (L:Nat)(C σ T:Θ)(r:St×List Prop×BS):Option (List DV×DH×List Prop×List Prop×Bool):=match frzL T (comp C σ r.1) with
 | some (S,w)=>some (S.fr,S.h,r.2.1,w,K7 σ L r.1.h.length)
 | none=>none
variable {L:Nat}
def vZ {C σ T:Θ}{r:St×List Prop×BS}(h:bv L C σ T r=some (fr,h',v,v2,true))(P:BX v2):r.2.1=v/\ A7 L r.1 ⟨fr,h'⟩:=by
 unfold bv at h;split at h
 ·rename_i S1 w1 O;simp only [zJw,zKR] at h;obtain ⟨rfl,rfl,rfl,rfl,l⟩:=h;exact ⟨rfl,(A7.comp C σ r.1 l).trans (A7.frzL T O P)⟩
 ·cases h
def wr (b:HX Fence.wide P)(C σ T:Θ)(d:HS c o z v)(e:HS [] [] [] v2)(fr:List DV)(h':DH)(R:AU P Γ N S ρ a w)(h:(EL P Γ ops ops.toList S ⟨c,o,z,[]⟩).bind (bv L C σ T)=some (fr,h',v,v2,true))(u:Ct ops=true) 
 (hk: ∀ ρ' a' w',AU P Γ N ⟨fr,h'⟩ ρ' a' w' -> A3 S.h ρ w h' ρ' w' -> a'.defers=a.defers -> B0 L ρ ρ' -> Q .normal a' w'):(Code.region id ops false).wpIn Fence.wide 0 P Q a w:=by
 obtain ⟨⟨S1,v1,o1⟩,j,h⟩:=Gq h;obtain ⟨rfl,l⟩:=vZ h e.all;refine zL4 (Lp b.f u _ (λo y=>by simpa using y) R j d.all λρ' a' w' R' st g=>?_);obtain ⟨ρ2,Z,i,t⟩:=l P Γ N ρ' a' w' R';exact hk ρ2 a' w' Z (st.st.trans i) g (B0.trans (λk p _ m=>st.pl k p m) t)
theorem gK (b:HX Fence.wide P)(early:Θ)(t:ST)(H:B2 ops early t)(tg:List (List (Nat×Nat)×St))(C σ T:Θ)(e:HS c o z v)(g:HS [] [] [] v2)(fr:List DV)(h':DH)(R:AU P Γ N S ρ a w)(h:(U0 P Γ ops early t S ⟨c,o,z,tg⟩).bind (bv L C σ T)=some (fr,h',v,v2,true)) 
 (hk: ∀ ρ' a' w',AU P Γ N ⟨fr,h'⟩ ρ' a' w' -> A3 S.h ρ w h' ρ' w' -> a'.defers=a.defers -> B0 L ρ ρ' -> Q .normal a' w'):(Code.region id ops true).wpIn Fence.wide 0 P Q a w:=by
 obtain ⟨⟨S1,v1,o1⟩,j,h⟩:=Gq h;obtain ⟨rfl,l⟩:=vZ h g.all;simp only [B2,zAD] at H;obtain ⟨⟨i,n⟩,q⟩:=H;unfold U0 at j;split at j
 ·cases j
 split at j
 ·cases j
 ·rename_i r;cases j;have d:Az w w.drew:=Az.toDrew w;refine pT (pS b.m (Nat.add_zero _) ((p5 b.f q n t ops.size _ zk (R.ext d) r e.all λρ' a' w' R' st s G=>?_).1 i));obtain ⟨ρ2,Z,u,x⟩:=l P Γ N ρ' a' w' R';exact hk ρ2 a' w' Z ((A3.ext d).trans (st.trans u)) G (B0.trans (λk p _ y=>s k p (by rw [←R.hr.len];grind) y) x)
theorem zMj {h:DH}{ρ ρ':List AK}{w w':World}{d:DV}{v:Value}(h0:As P Γ N [] ρ w)(R:As P Γ N h ρ' w')(st:A3 [] ρ w h ρ' w')(j:AI (MS N h ρ') w' d ρ' v)(a:GK d=true):B8 P Γ N [] ρ w true d [] v w':=by
 have e:ρ= []:=List.length_eq_zero_iff.1 h0.len;subst e;have f:=OO a _ _ _ _ j;have low: ∀ b,MO [] ([]:List AK) b -> False:=λb ⟨k,_,_,q,_⟩=>by simp at q
 have t:AS (λ_=>False) w w':=st.upd.mono λb _ c=>low b c
 refine ⟨⟨[],⟨rfl,λk o hk=>by simp at hk,λk o p b hk=>by simp at hk,λk k' o o' p p' b _ hk=>by simp at hk,R.nlt,R.gi⟩,?_,⟨t.mono λ_ _ h=>h.elim,λb c=>(low b c).elim⟩,λk p hk=>by simp at hk⟩,λ_=>t.toExt λ_ _ h=>h⟩;exact f.out _ ⟨λ_ _ _ _=>rfl,λb c=>.inl (c.imp id λh=>(low b h).elim),λk p hk=>by simp at hk⟩
end
variable {w:World}{a:Act}{P:Program}
theorem zBL {Q:Exit -> Act -> World -> Prop}{ops:Array Oper}{id t g:Nat}{o0 o1:Oper}{b:Array Operand}{q:Array TypeId}(o:ops.toList= [o0,o1])(h0:o0.op= .makeFunc (.func g) #[] b)(Fy:o0.dst=some t)(R:o0.guard=none)(h1:o1.op= .defer { callee:=.value (.tmp t),args:=#[],argTypes:=q })(GQ:o1.dst=none)(n:o1.guard=none)(ht:t<a.tmps.size) 
 (hQ: ∀ a',a'.tmps=a.tmps.setIfInBounds t (.func (.func g) #[] (b.map a.eval)) -> a'.defers= { target:=.fn (.func g) (b.map a.eval),args:=#[] }::a.defers -> Q .normal a' w):(Code.region id ops false).wpIn Fence.wide 0 P Q a w:=by
 refine zL4 ?_;rw [o];simp only [wpListIn,Oper.wpIn,Region.wanted,R,n,zL0];refine ⟨λ_ _=>trivial,?_⟩
 have N:(o0.semAt Fence.wide.round a.eval).run P w= .ok (.value (.func (.func g) #[] (b.map a.eval))) w:=by
  rw [zLv _ _ _ (by rw [h0];intro c e;cases e)];unfold execOp;rw [h0];simp only [zJ2,Array.map_empty];simp [go_sem]
 rw [N,Oper.uponIn_value];refine ⟨λ_ _=>trivial,?_⟩
 simp_all [Act.eval,Act.put,Oper.semAt_none,execOp,resolve,Deferred.ofValue,Oper.uponIn_defer]
variable {a':Act}{ρ:List AK}{h:DH}{fr:List DV}{N:Ψ}{Γ:Ay}
theorem AU.idle (R:AU P Γ N ⟨fr,h⟩ ρ a w)(t:Nat){v:Value}(ha:a'.tmps=a.tmps.setIfInBounds t v)(e:fr.set t .any=fr):AU P Γ N ⟨fr,h⟩ ρ a' w:=by
 refine ⟨R.hr,?_⟩;have:=R.fr.set t (d:=.any) (v:=v) trivial
 grind
variable {w':World}{ρ':List AK}{h':DH}
def nn {D:Nat}(H:As P Γ N h ρ w)(st:A3 h ρ w h' ρ' w')(a:w.heap[D]? =some (.deferred (some []))):w'.heap[D]? =some (.deferred (some [])):=by
 refine (st.upd.block D (zA0.1 a).1 ?_).trans a;rintro ⟨k,o,p,b,d,e⟩;obtain ⟨_,_,c,t,z,A⟩:=H.cel k o p D b d e;rw [a] at A;cases A;cases t
theorem AU.forg {fr':List DV}(C:Θ)(R:AU P Γ N ⟨fr,h⟩ ρ a w)(K:a'.tmps=a.tmps)(e:forget C fr=fr'):AU P Γ N ⟨fr',h⟩ ρ a' w:=by
 subst e;refine ⟨R.hr,?_⟩;rw [K];refine ⟨(Xh C fr).trans R.fr.1,λi hi=>?_⟩;have hi:i<fr.length:=by grind [Xh]
 show AI _ _ ((forget C fr).getD i .any) _ _
 rw [nU C fr hi];split
 ·exact R.fr.2 i hi
 ·trivial
def HD {L:Nat}{t:Array Value}(F:BB (MS N h ρ) w ρ fr t)(u:fr.all (CP L)=true)(H':As P Γ N h' ρ' w')(st:A3 h ρ w h' ρ' w')(l:B0 L ρ ρ'):BB (MS N h' ρ') w' ρ' fr t:=
 (F.take u).out ⟨λb c z _=>st.upd.block b c λd=>z (.inr d),λb c=>c.elim (λh=>.inl (.inl h)) λh=>(st.grow b h).imp .inr id,λk p f=>by
  rw [zP7] at f;split at f
  ·rename_i hk;exact l k p hk f
  ·cases f⟩
def Xn {S:St}{ρ0:List AK}{w0 W:World}{fn:Func}(R:AU P Γ N S ρ a W)(h0:As P Γ N [] ρ0 w0)(st:A3 [] ρ0 w0 S.h ρ W)(T:Θ){b:List Prop}(c:HS [] [] [] b)(t:List DV){d:DV}(e:AM (IT t) d) 
 (O:(frzL T S).bind (λq=>(Nz P q.1 fn.results.toList).map λr=>(r,q.2))=some (t,b)) (u:GK d=true): ∃ v,(results fn a.tmps).run P W= .ok v W/\ B8 P Γ N [] ρ0 w0 true d [] v W:=by
 obtain ⟨⟨S2,w2⟩,f,g⟩:=Gq O;obtain ⟨r,i,A⟩:=TO g;cases A;obtain ⟨ρ2,Z,j,_⟩:=A7.frzL (L:=0) T f c.all P Γ N ρ a W R;obtain ⟨v,p,k⟩:=aQ Z i;exact ⟨v,p,zMj h0 Z.hr (st.trans j) (e _ _ _ _ k) u⟩
end
section
variable {P:Program} {Γ:Ay} {N:Ψ} {ρ:List AK} {w:World} {hc T:DH} {gf m:Nat} {cap:Nat -> DV} {ys:List (List DV)} {tD:Bool -> DV}
def q8 (J:Nat -> (Ψ) -> (Ψ) -> World -> Prop)(a:(Ψ) -> (Ψ) -> World -> Prop)(Q:List PanicEntry -> (Ψ) -> (Ψ) -> World -> Prop):Ys -> (Ψ) -> (Ψ) -> World -> Prop
 | .go i=>J i
 | .stop=>a
 | .pan c=>Q c
theorem YW.iterW (H:YW P Γ tD gf (λl=>.yl l::(List.range m).map cap) (λ_=>hc) ys)(HR:As P Γ N (hc++T) ρ w)(Bl:hc.all (UO hc.length)=true)(D:((List.range m).map cap).all (CP hc.length)=true) 
 {d:Array Value} (F:d.size=m) (Ts: ∀ j,j<m -> ∃ u,d[j]? =some u/\ AI (MS N (hc++T) ρ) w (cap j) ρ u):
 Ul False False P gf d YV ys (λe _ _ _=>∃ v,e= .returned v) (MO hc (ρ.take hc.length)) (λb=>b<w.heap.size/\ ¬ MS N (hc++T) ρ b) w:=by
 intro l I L Q W hJ J f S M O Oj Lj
 let C:EN P:=⟨l,ys,q8 I L Q,λs=>by
  cases s with
  | go i=>exact hJ i
  | stop=>exact J
  | pan c=>exact f c,λi x args G R U V X Z h4=>YieldAt.mono (M i x args G R U V X Z h4) λe W' ⟨q1,o⟩=>⟨q1,by
   rcases o with ⟨rfl,q⟩ | ⟨rfl,q⟩ | ⟨c,rfl,q⟩
   ·exact ⟨.go (i+1),⟨rfl,rfl⟩,q⟩
   ·exact ⟨.stop,rfl,q⟩
   ·exact ⟨.pan c,rfl,q⟩⟩⟩
 obtain ⟨g,Y⟩:=HR.take (K:=hc.length) Z3 Z4;rw [List.take_left' rfl] at g Y;have Ck:Γ.ng<=w.heap.size:=Γ.lo _ HR.gi
 have p:AS (λb=>N b∨MT hc.length (hc++T) ρ b) w W:=S.mono λb A r=>by
  grind [MS]
 have lo: ∀ b,b<Γ.ng -> b<w.heap.size/\ ¬ MS N (hc++T) ρ b:=λb a=>⟨Z2,λr=>by
  have:=(HR.lt2 r).2;omega⟩
 have A: ∀ b,MO hc (ρ.take hc.length) b -> b<w.heap.size:=λb a=>(HR.lt2 ((Y b).1 (.inr a))).1
 have z: ∀ b,N b∨MT hc.length (hc++T) ρ b -> (N b∨MT hc.length (hc++T) ρ b)/\ Γ.ng<=b:=λb a=>⟨a,(g.nlt b a).2⟩
 have E: ∀ b,(b<W.heap.size/\ ¬ MO hc (ρ.take hc.length) b/\ ¬ (b<w.heap.size/\ ¬ MS N (hc++T) ρ b)) -> (N b∨MT hc.length (hc++T) ρ b)∨w.heap.size<=b:=λb ⟨_,o,q3⟩=>by
  grind [MS]
 have HW:As P Γ (λb=>b<W.heap.size/\ ¬ MO hc (ρ.take hc.length) b/\ ¬ (b<w.heap.size/\ ¬ MS N (hc++T) ρ b)) hc (ρ.take hc.length) W:=g.foreign p z E λb a=>⟨a.1,zQL λhl=>a.2.2 (lo b hl)⟩
 have nR:BB (MS (λb=>N b∨MT hc.length (hc++T) ρ b) hc (ρ.take hc.length)) w (ρ.take hc.length) ((List.range m).map cap) d:=by
  have e:MS (λb=>N b∨MT hc.length (hc++T) ρ b) hc (ρ.take hc.length)=MS N (hc++T) ρ:=funext λb=>propext (Y b)
  refine BB.take ⟨by simp [F],λj B=>?_⟩ D
  simp_all
 have nS:=nR.out (BL.foreign (Γ:=Γ) p z E)
 refine (H.2 C 0 ⟨[],by simp [C]⟩ _ _ _ W _ _ HW (BB.append (l:=[.yl C.l]) (t:=#[.func (.yield l) #[] #[]]) ⟨rfl,λj B=>by
  have:j=0:=Nat.lt_one_iff.1 B;subst this;rfl⟩ nS) O ⟨⟨λb a hr=>hr.2 ((Y b).1 (.inr a)),λb a=>zCD (a.elim (A b) λh=>h.1) S.size⟩,lo,λ_ h=>h,λ_=>Iff.rfl⟩).mono ?_
 rintro e w' ⟨s,N',ρ',G',R',Ri,n,y',kp,y⟩;refine ⟨G',R',y'.sh,?_⟩;cases s with
 | go k=>
  obtain ⟨rfl,v,rfl,_⟩:=y;refine .inl ⟨?_,v,rfl⟩;simpa [C,q8] using n
 | stop=>
  obtain ⟨v,rfl,_⟩:=y;exact .inr (.inl ⟨⟨v,rfl⟩,n⟩)
 | pan c=>exact .inr (.inr ⟨c,y,n⟩)
def zPn (J:DH -> Prop)(a:Exit -> DH -> Prop)(Q:List PanicEntry -> DH -> Prop)(e:Exit)(h:DH):Prop:=(e= .normal/\ J h)∨((Kk e).isSome=true/\ a e h)∨∃ c,e= .panic c/\ Q c h
variable {L X:Code}{fr:List DV}
theorem zFr {fi:FuncId}{a:Act}{g:Operand}{U:Array Tmp}{J:Nat -> DH -> Prop}{Y:Exit -> DH -> Prop}{Z:List PanicEntry -> DH -> Prop}{KK:Nat}{Q:Exit -> Act -> World -> Prop}(XJ: ∃ f,P.funcs[fi]? =some f)(R:AU P Γ N ⟨fr,hc++T⟩ ρ a w)(hg:Ad fr g= .fn gf m cap) 
 (H:YW P Γ tD gf (λl=>.yl l::(List.range m).map cap) (λ_=>hc) ys) (Bl:hc.all (UO hc.length)=true) (mj:((List.range m).map cap).all (CP hc.length)=true)
 (Es: ∀ x∈ys,x.length=U.size) (CD:fr.all (CP KK)=true) (h0:J 0 (hid hc.length T)) (DU:f7 P Γ fr U.toList L X KK J Y Z ys)
 (F: ∀ (D:Nat) (e:Exit) (h':DH) (ρ':List AK) (w':World),zPn (J ys.length) Y Z e h' -> AU P Γ N ⟨fr,h'⟩ ρ' a w' -> A3 (hc++T) ρ w h' ρ' w' -> B0 KK ρ ρ' -> w'.heap[D]? =some (.deferred (some [])) -> w.heap.size<=D ->
  Q e { a with defers:={ target:=.collected D,args:=#[] }::a.defers } w'):I1 Fence.wide 0 P fi (.rangeFunc g U L X) Q a w:=by
 have I:=BV R g;rw [hg] at I;obtain ⟨lb,hv,hs,Ts⟩:=I;have HR:As P Γ N (hc++T) ρ w:=R.hr;have Ck:Γ.ng<=w.heap.size:=Γ.lo _ HR.gi
 have V: ∀ b,MO (hc++T) ρ b↔MO hc (ρ.take hc.length) b∨MT hc.length (hc++T) ρ b:=λb=>by
  grind [MO,MT]
 have K: ∀ b,N b -> b<w.heap.size/\ ¬ MO (hc++T) ρ b:=λb d=>⟨(HR.nlt b d).1,λ⟨k,o,p,q,s,n⟩=>(HR.cel k o p b q s n).2.1 d⟩
 have Ab: ∀ b,MO (hc++T) ρ b -> b<w.heap.size/\ Γ.ng<=b:=λb d=>HR.lt2 (.inr d)
 have Il:D8 (MO hc (ρ.take hc.length)) (λb=>b<w.heap.size/\ ¬ MS N (hc++T) ρ b) w:=⟨λb d hr=>hr.2 (.inr ((V b).2 (.inl d))),λb d=>d.elim (λh=>(Ab b ((V b).2 (.inl h))).1) λh=>h.1⟩
 have du:RJ P Γ N (hc++T) ρ w KK J 0 (MO hc (ρ.take hc.length)) (λb=>b<w.heap.size/\ ¬ MS N (hc++T) ρ b) w:=
  ⟨_,ρ,h0,HR.hide,AS.refl _ _,λb d=>.inl (MO.hid d).mo,λb d=>⟨(Ab b ((V b).2 (.inl d))).2,.inl ((V b).2 (.inl d))⟩,λb d=>⟨λhn=>d.2 (.inl hn),λhm=>d.2 (.inr (MO.hid hm).mo)⟩,B0.refl _ _⟩
 have hst: ∀ i,Cw (RJ P Γ N (hc++T) ρ w KK J i):=λi G R' G' R2 A C ⟨h,ρ',j,y⟩ q s n z B E=>⟨h,ρ',j,RI.stable Ck K _ _ _ _ _ _ y q s n z B E⟩
 have dN: ∀ c,Cw (RX P Γ N (hc++T) ρ w KK Y c):=λc G R' G' R2 A C ⟨e,M,h,ρ',j,y⟩ q s n z B E=>⟨e,M,h,ρ',j,RI.stable Ck K _ _ _ _ _ _ y q s n z B E⟩
 have hsp: ∀ c,Cw (RPn P Γ N (hc++T) ρ w KK Z c):=λc G R' G' R2 A C ⟨h,ρ',j,y⟩ q s n z B E=>⟨h,ρ',j,RI.stable Ck K _ _ _ _ _ _ y q s n z B E⟩
 have eg: ∀ args w,(callFunc gf args).run P w= .ok (.enter gf args) w:=H.1;have stp: ∀ {G R':Ψ} {W:World} {h:DH} {ρ':List AK},RI KK P Γ N (hc++T) ρ w G R' W h ρ' -> A3 (hc++T) ρ w h ρ' W:=λhR=>⟨hR.upd,hR.grow⟩
 have O: ∀ {G R':Ψ} {W:World} {h:DH} {ρ':List AK},RI KK P Γ N (hc++T) ρ w G R' W h ρ' -> AU P Γ N ⟨fr,h⟩ ρ' a W:=λhR=>⟨hR.hrel,hR.frame (S:=⟨fr,hc++T⟩) R (λ_ h=>h) CD⟩
 refine pU (nv:=False) (np:=False) (.inr XJ) hv eg (H.iterW HR Bl mj hs Ts) Il (λx I R W args h=>h.1.symm.trans (Es x I)) _ _ _ hst dN hsp (λh=>h.elim) (λh=>h.elim) du (jB R K (λ_ h=>h) CD DU) ?_ ?_ ?_
 ·rintro D e G R1 own W W' ⟨v,rfl⟩ ⟨h,ρ1,j,hR⟩ _ _ _ r u;exact F D .normal h ρ1 W' (.inl ⟨rfl,j⟩) (O hR) (stp hR) hR.kept r u
 ·rintro D c G R1 W ⟨e,M,h,ρ',j,hR⟩ r u;cases e with
  | ret=>cases M;exact zQE (F D .ret h ρ' W (.inr (.inl ⟨rfl,j⟩)) (O hR) (stp hR) hR.kept r u)
  | exit id=>cases M;exact wpIn_exit (F D (.exit id) h ρ' W (.inr (.inl ⟨rfl,j⟩)) (O hR) (stp hR) hR.kept r u)
  | normal=>cases M
  | goto t=>cases M
  | panic c=>cases M
  | outgrown=>cases M
 ·rintro D c G R1 W ⟨h,ρ',j,hR⟩ r u;exact F D (.panic c) h ρ' W (.inr (.inr ⟨c,rfl,j⟩)) (O hR) (stp hR) hR.kept r u
theorem zFA {α σ:Type}{V:List Tmp}{K:Nat}(R:List Exit)(u:(R.all λe=>(Kk e).isSome)=true)(O:List PanicEntry)(enc:α -> List DV)(ys:List α)(f:α -> σ -> Option (σ×Nat))(F:σ -> DH){rE:σ×Nat}(n:α -> List DV) 
 (v: ∀ (l B:Nat) (N:BK P Γ K) (x:α) (s:σ) (r:σ×Nat),f x s=some r -> HJ P Γ (Fence.wide.inRound l) (some B) K N (Cx K (R++[.panic O]) r.2 (F r.1)) L X ⟨n x,F s⟩) (hni: ∀ s,(F s).all WV=true) (z:(λx=>I6 fr V (enc x))=n):
 f7 P Γ fr V L X K (λi h=>∃ s,CY f (ys.drop i) s=some rE/\ h=F s) (λe h=>(Exit.normal::R)[rE.2]? =some e/\ h=F rE.1) (λc h=>c=O/\ rE.2=R.length+1/\ h=F rE.1) (ys.map enc):=by
 subst z;rintro l' o A i x h d ⟨s,p,rfl⟩;rw [zKG] at d;cases hy:ys[i]? with
 | none=>rw [hy] at d;cases d
 | some y=>
  rw [hy] at d;cases d;have Ab:=(zJ0.1 hy).1
  have C:ys.drop i=y::ys.drop (i+1):=by
   grind [List.drop_eq_getElem_cons]
  rw [C] at p;obtain ⟨r,D,b⟩:=Gq p
  have J: ∀ {e:Exit} {a:St},Cx K (R++[.panic O]) r.2 (F r.1) e a -> zA1 K (λh=>∃ s,CY f (ys.drop (i+1)) s=some rE/\ h=F s) (λe h=>(Exit.normal::R)[rE.2]? =some e/\ h=F rE.1) (λc h=>c=O/\ rE.2=R.length+1/\ h=F rE.1) e a:=by
   rintro e a ⟨g,w,U,j⟩;cases hc:r.2 with
   | zero=>
    rw [hc] at g;cases g
    have b:CY f (ys.drop (i+1)) r.1=some rE:=by
     grind
    exact .inl ⟨w,U,.inl ⟨rfl,r.1,b,j⟩⟩
   | succ k=>
    have b:r=rE:=by
     grind
    subst b;rw [hc] at g;rcases zKL k R.length with hk | hk
    ·have M:R[k]? =some e:=by
      grind
     have d:=zBk.1 u e (zJ1 M);exact .inl ⟨w,U,.inr ⟨d,by rw [hc];exact M,j⟩⟩
    ·have M:(R++[Exit.panic O])[k]? =some e:=g;rw [zJx hk] at M
     have E:k-R.length=0:=by
      grind
     rw [E] at M;cases M;exact .inr ⟨O,w,rfl,U,by rw [j];exact QJ (hni _),rfl,by rw [hc];omega,j⟩
  refine Tr.mono (v l' o A y s r D) λe a Y2 Q=>?_
  cases e with
  | normal=>exact ⟨Q.1,λm=>Tr.mono (show Tr P Γ (Fence.wide.inRound l') (some o) K m X a (stay m (Cx K (R++[.panic O]) r.2 (F r.1))) from Q.2 m) λe w Y3 q=>⟨q.1,J q.2⟩⟩
  | ret=>exact Q.elim
  | exit id=>exact Q.elim
  | goto t=>exact Q.elim
  | panic c=>exact Q.elim
  | outgrown=>exact Q.elim
end
def HF:Value:=.iface 30 (.int .i64 220)
section
variable {F:Fence} {B:Option Nat} {L:Nat} {Y N:BK Tryz.prog GG L} {Q:QY Tryz.prog GG L}
variable {S:St}
def TF {e:List PanicEntry}(h:Q (.panic e) S Y): ∀ (k:List KI),BG Tryz.prog GG F B L Q k (.panic e) S Y
 | []=>h
 | .blk _::k=>TF h k
 | .code _::k=>TF h k
 | .lend _::k=>TF h k
 | .scp::k=>TF h k
 | .loopN _ _::k=>TF h k
variable {x:Value}{k:List KI}{o0 o1:Oper}{ops:Array Oper}{ty:TypeId}{id t:Nat}
theorem zHU [g:HC F]        (o:ops.toList= [o0,o1]) (h0:o0.op= .makeInterface ty (.const x)) (C:o0.dst=some t) (j:o0.guard=none) (i:o1.op= .panic (.tmp t)) (n:o1.guard=none) (ht:Nat.blt t S.fr.length=true) (hc:Tryz.prog.concrete ty=true)
 (l:Q (.panic (pan (.iface ty x))) ⟨NI S.fr,S.h⟩ Y):A5 Tryz.prog GG F B L Y Q (.code (.region id ops false)::k) S:=by
 show Tr Tryz.prog GG F B L Y (.region id ops false) S _
 intro N ρ a w R y m b
 have hts:t<a.tmps.size:=by
  have:=R.fr.1
  simp_all
 refine zL4 ?_;rw [o];simp only [wpListIn,Oper.wpIn,Region.wanted,j,n,zL0];refine ⟨λf _=>g.x.f.fn f,?_⟩
 have p:(o0.semAt F.round a.eval).run Tryz.prog w= .ok (.value (.iface ty x)) w:=by
  rw [zLv _ _ _ (by rw [h0];intro c e;cases e)];unfold execOp;rw [h0];have:=run_makeInterface (P:=Tryz.prog) w ty x hc;simp [go_sem,this]
 rw [p,Oper.uponIn_value];refine ⟨λf _=>g.x.f.fn f,?_⟩;obtain ⟨d,u⟩: ∃ d,d=a.put o0.dst (.iface ty x):=⟨_,rfl⟩;rw [←u]
 have q:d.eval (.tmp t)= .iface ty x:=by
  simp_all [Act.eval,Act.put]
 have r:(o1.semAt F.round d.eval).run Tryz.prog w= .halt (.panic (.iface ty x)) w:=by
  rw [zLv _ _ _ (by rw [i];intro c e;cases e)];unfold execOp;rw [i];have s:d.eval (.tmp t)= .iface ty x:=q;simp only [s];simp [go_sem]
 rw [r,Oper.uponIn_panic];have v:d.defers=a.defers:=by rw [u,C];simp [Act.put]
 have z:S.fr.length=d.tmps.size:=by rw [u,C];simpa [Act.put] using R.fr.1
 exact ⟨⟨NI S.fr,S.h⟩,ρ,N,Y,TF l k,⟨R.hr,zAi z⟩,y,by rw [v];exact m,b⟩
def pX [hX:HC F] {R:List Exit} {i:Nat} {b:DH}      {fr:List DV}  (M:(Exit.normal::R)[i]? =some (.panic (pan (.iface ty x)))) (o:ops.toList= [o0,o1]:=by rfl) (h0:o0.op= .makeInterface ty (.const x):=by rfl) (C:o0.dst=some t:=by rfl) (a:o0.guard=none:=by rfl) (c:o1.op= .panic (.tmp t):=by rfl) (n:o1.guard=none:=by rfl) (V:Nat.blt t fr.length=true:=by kernel_rfl) (hc:Tryz.prog.concrete ty=true:=by kernel_rfl):BI Tryz.prog GG F B L N (Cx L R i b) (.code (.region id ops false)::k) ⟨fr,b⟩:=
 zHU o h0 C a c n V hc ⟨rfl,M,_,A7.refl _ _,rfl⟩
end
def zA3 (f:FuncId)(ds:List DV)(M:Value):Prop:=(∀ args W,(callFunc f args).run Tryz.prog W= .ok (.enter f args) W)/\ ∀ (N:Ψ) (ρ:List AK) (w:World) (args:Array Value),As Tryz.prog GG N [] ρ w -> BB (MS N [] ρ) w ρ ds args -> CallsIn Fence.wide 0 Tryz.prog f args w λe w'=>e= .panicked (pan M)/\ Az w w'
section
variable {N:Ψ} {ρ:List AK} {a:Act} {w:World} {S:St} {Q:Exit -> Act -> World -> Prop} {fr:List DV} {h':DH} {c:List (DV×DH×Bool)} {o:List (Nat×DV)} {z:List (Nat×Fz)} {v:List Prop} {id:Nat} {ops:Array Oper}
def pP {g:FuncId}{ds:List DV}{M:Value}{dst:Option Tmp}(H:zA3 g ds M)(u d:Θ)(p:Nat)(t:HS c o z v)(fr:List DV)(h':DH)(R:AU Tryz.prog GG N S ρ a w)(j:(YD Tryz.prog GG ops u p S ⟨c,o,z,[]⟩).map (bs (Gh 0 fr))=some (g,ds,dst,fr,h',v))(A:List.range ops.size=u++p::d)(i:Ct ops=true)(B:ds.all (CP 0)=true) 
 (hk: ∀ ρ' a' w',AU Tryz.prog GG N ⟨fr,h'⟩ ρ' a' w' -> A3 S.h ρ w h' ρ' w' -> a'.defers=a.defers -> B0 S.h.length ρ ρ' -> Q (.panic (pan M)) a' w'):(Code.region id ops false).wpIn Fence.wide 0 Tryz.prog Q a w:=by
 obtain ⟨f1,An,j,C⟩:=vX j;refine zL4 ?_;rw [←u5,A];unfold YD at j;split at j
 ·cases j
 rename_i S2 FD G6 D;split at j
 ·cases j
 rename_i o l;split at j
 ·rename_i X;split at j
  ·rename_i c' E;split at j
   ·rename_i f G;split at j
    ·rename_i g' m' cap O;simp only [zJw,zKR] at j;obtain ⟨rfl,I,rfl,rfl,rfl,rfl⟩:=j;rw [TD];have J:CM ops (p::d)=o::CM ops d:=by simp only [CM,l]
     rw [J];refine T3 (HC.x (F:=Fence.wide)).f i _ (P8 u) R D t.all λρ1 m w1 y n L=>?_
     obtain ⟨args,P,q⟩:=oF y o E G O H.1;rw [I] at q;unfold wpListIn;rw [zAE (I2 y X)];refine ⟨λf _=>trivial,?_⟩;rw [zLv _ _ _ (JJ i l),P];obtain ⟨r,Y⟩:=y.hr.take (K:=0) (zJs _) (by rw [List.take_zero];rfl);rw [List.take_zero,List.take_zero] at r Y
     have T:BB (MS (λb=>N b∨MT 0 h' ρ1 b) [] []) w1 [] ds args:=by
      have e:MS (λb=>N b∨MT 0 h' ρ1 b) [] []=MS N h' ρ1:=funext λb=>propext (Y b)
      rw [e];exact q.take B
     refine ⟨λU=>(by cases U),(H.2 _ _ _ _ r T).mono ?_⟩;rintro e w' ⟨rfl,s⟩;have Z:AU Tryz.prog GG N ⟨fr,h'⟩ ρ1 m w':=(y.ext s).forg (fr':=fr) _ rfl C.symm;exact hk ρ1 m w' Z (n.st.trans (A3.ext s)) L λk p _ V=>n.pl k p V
    ·cases j
   ·cases j
  ·cases j
 ·cases j
variable {g:Nat}{P:Program}
theorem ph {o0:Oper}{x:Operand}{q:Array TypeId}(o:ops.toList= [o0])(h0:o0.op= .defer { callee:=.value (.func g),args:=#[x],argTypes:=q })(C:o0.dst=none)(R:o0.guard=none) 
 (u: ∀ a',a'.tmps=a.tmps -> a'.defers= { target:=.fn (.func g) #[],args:=#[a.eval x] }::a.defers -> Q .normal a' w):(Code.region id ops false).wpIn Fence.wide 0 P Q a w:=by
 refine zL4 ?_;rw [o];simp only [wpListIn,Oper.wpIn,Region.wanted,R,zL0];refine ⟨λ_ _=>trivial,?_⟩
 have B:(o0.semAt Fence.wide.round a.eval).run P w= .ok (.defer { target:=.fn (.func g) #[],args:=#[a.eval x] }) w:=by
  simp_all [Oper.semAt_none,execOp,resolve,Deferred.ofValue,Act.eval]
 rw [B,Oper.uponIn_defer,C];exact u _ rfl rfl
def OX {fn:Func}{tmps:Array Value}{R:Ending -> World -> Prop}{b args o:Array Value}{ds:List Deferred}{u:FrameMode}{w:World}(t:u≠.run)(c: ∀ args W,(callFunc g args).run P W= .ok (.enter g args) W)(hc:args++b=o) 
 (h:CallsDIn Fence.wide (0-1) P g o u w λ
  | .returned _,s,w'=>LeavesInM Fence.wide 0 P fn tmps R ds (settle s) w'
  | .panicked a,s,w'=>LeavesInM Fence.wide 0 P fn tmps R ds (raised s a) w'
  | .outgrown,_,w'=>R .outgrown w'):LeavesInM Fence.wide 0 P fn tmps R ({ target:=.fn (.func g) b,args:=args }::ds) u w:=by
 subst hc;refine ⟨t,.inr ⟨λh=>(by cases h),.func g,b,g,args++b,rfl,?_,λ_ _=>trivial,h.mono λe s w' Q=>by cases e <;> exact Q⟩⟩;simp [invoke,go_sem,c]
end
section
set_option maxRecDepth 100000
set_option maxHeartbeats 40000000
def zII (n:Nat)(q:AA)(pos:Ξ):Option Unit:= some ()
def vu (n:Nat)(q:AA)(pos:Ξ):Option Unit:=zII n q pos
def zIH {n:Nat}(q:AA)(pos:Ξ){r:Unit}(h:vu n q pos=some r):EQ 36 [.agg 5 (L1 (AE q)),.ints pos] [] (.fn 49 2 (L1 [.ref 0 0,.ref 1 0])) [oC (AE q),oC [.ints pos]] true:=by
 refine ot Tryz.func36 λB N=>?_
 revert r;apply gO;exact lE AD [4] [0,1]
def qe:ST:=.rd 0 (.rd 1 (.ef 2 (.ef 3 (.ef 4 (.fin [] [8,9,10]) (.no)) (.no)) (.no)))
def iX:B2 (A0 Tryz.f26 11) [2] qe:=Z1
def HT:BF:=λi=>match i with
 | 11=>.tre [2] qe
 | _=>.no
def zKv (most fuel:Int)(d:BP):DH:=[none,none,oC [.i most],oC [.i fuel],oC [.nils],oC [.nils],oC [.bool false],oC [.i d.1.1,.i d.1.2]]
def zKu (most fuel:Int):DH:=[none,none,oC [.i most],oC [.i fuel],oC [.nils],oC [.nils],oC [.bool false]]
def qI (most fuel:Int)(d:BP):St:=⟨(AH 42 [(8,.ref 4 0),(9,.ref 5 0),(10,.ref 6 0)]),([none,none,oC [.i most],oC [.i (fuel-1)],oC [.msl 11 1 0 (([d.2]:List Ξ).length)],oC [.msl 9 2 0 (([(d.1.1,d.1.2)]:List (Δ)).length)],oC [.bool true],oC [.i d.1.1,.i d.1.2],some (.arr 2 (([(d.1.1,d.1.2)]:List (Δ)).length) (AO A2 ([(d.1.1,d.1.2)]:List (Δ)))),some (.arr 2 (([(d.1.1,d.1.2)]:List (Δ)).length) (AO A2 ([(d.1.1,d.1.2)]:List (Δ)))),some (.arr 1 (([d.2]:List Ξ).length) (AO AW ([d.2]:List Ξ))),some (.arr 1 (([d.2]:List Ξ).length) (AO AW ([d.2]:List Ξ)))]:DH)⟩
def zKt (most X:Int)(n:Nat)(I:List (Δ))(d:BP):DH:=[none,none,oC [.i most],oC [.i X],oC [.nils],oC [.msl 7 2 0 n],oC [.bool false],some (.arr 2 I.length (AO A2 I)),oC [.i d.1.1,.i d.1.2]]
def zKs (most X:Int)(n:Nat)(I:List (Δ)):DH:=[none,none,oC [.i most],oC [.i X],oC [.nils],oC [.msl 7 2 0 n],oC [.bool false],some (.arr 2 I.length (AO A2 I))]
def qH (most X:Int)(d:BP)(I:List (Δ)):St:=⟨(AH 42 [(8,.ref 4 0),(9,.ref 5 0),(10,.ref 6 0)]),([none,none,oC [.i most],oC [.i (X-1)],oC [.msl 12 1 0 (([d.2]:List Ξ).length)],oC [.msl 10 2 0 (I.length+([(d.1.1,d.1.2)]:List (Δ)).length)],oC [.bool true],none,oC [.i d.1.1,.i d.1.2],some (.arr 2 (([(d.1.1,d.1.2)]:List (Δ)).length) (AO A2 ([(d.1.1,d.1.2)]:List (Δ)))),some (.arr 2 ((I++([(d.1.1,d.1.2)]:List (Δ))).length) (AO A2 (I++([(d.1.1,d.1.2)]:List (Δ))))),some (.arr 1 (([d.2]:List Ξ).length) (AO AW ([d.2]:List Ξ))),some (.arr 1 (([d.2]:List Ξ).length) (AO AW ([d.2]:List Ξ)))]:DH)⟩
def zKr (most Y:Int)(X o:Nat)(a:Bool)(J:List Ξ)(K:List (Δ))(d:BP):DH:=[none,none,oC [.i most],oC [.i Y],oC [.msl 7 1 0 X],oC [.msl 8 2 0 o],oC [.bool a],some (.arr 1 J.length (AO AW J)),some (.arr 2 K.length (AO A2 K)),oC [.i d.1.1,.i d.1.2]]
def zKq (most Y:Int)(X o:Nat)(a:Bool)(J:List Ξ)(K:List (Δ)):DH:=[none,none,oC [.i most],oC [.i Y],oC [.msl 7 1 0 X],oC [.msl 8 2 0 o],oC [.bool a],some (.arr 1 J.length (AO AW J)),some (.arr 2 K.length (AO A2 K))]
def qG (most Y:Int)(J:List Ξ)(d:BP)(K:List (Δ)):St:=⟨(AH 42 [(8,.ref 4 0),(9,.ref 5 0),(10,.ref 6 0)]),([none,none,oC [.i most],oC [.i (Y-1)],oC [.msl 13 1 0 (J.length+([d.2]:List Ξ).length)],oC [.msl 11 2 0 (K.length+([(d.1.1,d.1.2)]:List (Δ)).length)],oC [.bool true],none,none,oC [.i d.1.1,.i d.1.2],some (.arr 2 (([(d.1.1,d.1.2)]:List (Δ)).length) (AO A2 ([(d.1.1,d.1.2)]:List (Δ)))),some (.arr 2 ((K++([(d.1.1,d.1.2)]:List (Δ))).length) (AO A2 (K++([(d.1.1,d.1.2)]:List (Δ))))),some (.arr 1 (([d.2]:List Ξ).length) (AO AW ([d.2]:List Ξ))),some (.arr 1 ((J++([d.2]:List Ξ)).length) (AO AW (J++([d.2]:List Ξ))))]:DH)⟩
inductive HU where
 | s0
 | s1 (E6:Int) (H4:Nat) (DD:List (Δ))
 | s2 (E5:Int) (He H3:Nat) (Hd:Bool) (DC:List Ξ) (DB:List (Δ))
def Vc (most fuel:Int):HU -> DH
 | .s0=>[none,none,oC [.i most],oC [.i fuel],oC [.nils],oC [.nils],oC [.bool false]]
 | .s1 X n I=>[none,none,oC [.i most],oC [.i X],oC [.nils],oC [.msl 7 2 0 n],oC [.bool false],some (.arr 2 I.length (AO A2 I))]
 | .s2 Y a o b J K=>[none,none,oC [.i most],oC [.i Y],oC [.msl 7 1 0 a],oC [.msl 8 2 0 o],oC [.bool b],some (.arr 1 J.length (AO AW J)),some (.arr 2 K.length (AO A2 K))]
def iq (n:Nat)(most fuel:Int)(d:BP):Option (HU×Nat):= bif (fuel==0) then some (.s0,2) else if AG (fuel-1) then bif (d.1.1 != 4) then some (.s1 (fuel-1) (([(d.1.1,d.1.2)]:List (Δ)).length) ([(d.1.1,d.1.2)]:List (Δ)),0) else bif (((([d.2]:List Ξ).length:Nat):Int)==most) then some (.s2 (fuel-1) (([d.2]:List Ξ).length) (([(d.1.1,d.1.2)]:List (Δ)).length) true ([d.2]:List Ξ) ([(d.1.1,d.1.2)]:List (Δ)),1) else some (.s2 (fuel-1) (([d.2]:List Ξ).length) (([(d.1.1,d.1.2)]:List (Δ)).length) false ([d.2]:List Ξ) ([(d.1.1,d.1.2)]:List (Δ)),0) else none
def ip (n:Nat)(most fuel:Int)(d:BP)(X:Int)(a:Nat)(I:List (Δ)):Option (HU×Nat):= bif (X==0) then some (.s1 X a I,2) else if AG (X-1)/\ a=I.length/\ I.length+([(d.1.1,d.1.2)]:List (Δ)).length<=Av then bif (d.1.1 != 4) then some (.s1 (X-1) (I.length+([(d.1.1,d.1.2)]:List (Δ)).length) (I++([(d.1.1,d.1.2)]:List (Δ))),0) else bif (((([d.2]:List Ξ).length:Nat):Int)==most) then some (.s2 (X-1) (([d.2]:List Ξ).length) (I.length+([(d.1.1,d.1.2)]:List (Δ)).length) true ([d.2]:List Ξ) (I++([(d.1.1,d.1.2)]:List (Δ))),1) else some (.s2 (X-1) (([d.2]:List Ξ).length) (I.length+([(d.1.1,d.1.2)]:List (Δ)).length) false ([d.2]:List Ξ) (I++([(d.1.1,d.1.2)]:List (Δ))),0) else none
def io (n:Nat)(most fuel:Int)(d:BP)(Y:Int)(X o:Nat)(a:Bool)(J:List Ξ)(K:List (Δ)):Option (HU×Nat):= bif (Y==0) then some (.s2 Y X o a J K,2) else if AG (Y-1)/\ o=K.length/\ K.length+([(d.1.1,d.1.2)]:List (Δ)).length<=Av then bif (d.1.1 != 4) then some (.s2 (Y-1) X (K.length+([(d.1.1,d.1.2)]:List (Δ)).length) a J (K++([(d.1.1,d.1.2)]:List (Δ))),0) else if X=J.length/\ J.length+([d.2]:List Ξ).length<=Av then bif ((((J.length+([d.2]:List Ξ).length):Nat):Int)==most) then some (.s2 (Y-1) (J.length+([d.2]:List Ξ).length) (K.length+([(d.1.1,d.1.2)]:List (Δ)).length) true (J++([d.2]:List Ξ)) (K++([(d.1.1,d.1.2)]:List (Δ))),1) else some (.s2 (Y-1) (J.length+([d.2]:List Ξ).length) (K.length+([(d.1.1,d.1.2)]:List (Δ)).length) a (J++([d.2]:List Ξ)) (K++([(d.1.1,d.1.2)]:List (Δ))),0) else none else none
def zEr (n:Nat)(most fuel:Int)(d:BP):HU -> Option (HU×Nat)
 | .s0=>iq n most fuel d
 | .s1 X a I=>ip n most fuel d X a I
 | .s2 Y b o c J K=>io n most fuel d Y b o c J K
def JB (n:Nat)(most fuel:Int)(d:BP)(s:HU):Option (HU×Nat):=zEr n most fuel d s
def zEq (n:Nat)(most fuel:Int)(l B:Nat)(N:Yd 7)(d:BP)(s:HU)(r:HU×Nat)(h:JB n most fuel d s=some r):TA l B N (Cx 7 [.ret,.panic (pan HF)] r.2 (Vc most fuel r.1)) Tryz.f26 15 ⟨AH 42 [(6,.ref 2 0),(7,.ref 3 0),(8,.ref 4 0),(9,.ref 5 0),(10,.ref 6 0),(15,.fn 49 2 (L1 [.ref 0 0,.ref 1 0])),(16,.agg 2 (L1 [.i d.1.1,.i d.1.2])),(17,.ints d.2)],Vc most fuel s⟩:=by
 cases s with
 | s0=>
  refine ag HT [0,1,2,3,4,5,6,7] (H0.t) (AH 42 [(6,.ref 2 0),(7,.ref 3 0),(8,.ref 4 0),(9,.ref 5 0),(10,.ref 6 0),(11,.ref 7 0),(12,.ints d.2)]) (zKv most fuel d) λN=>?_
  revert r;apply gO
  exact bi 19 (λp r h=>by
   cases h;refine gs (AJ 5 HT) [0,1,2,3,4,5,6] p (Dr (Pk Tryz.f26 15) 5 []) (AH 42 []) (zKu most fuel) ?_;exact pX (o0:=_) (o1:=_) rfl) (gw 22 (jt (ja 25 8 2 (Gb (c:=A2) (L:=([(d.1.1,d.1.2)]:List (Δ))) (vals:=[.agg 2 (L1 [.i d.1.1,.i d.1.2])]) rfl ⟨⟨_,rfl,⟨Ar,Ar,trivial⟩⟩,trivial⟩) (jg (And.intro (And.intro (And.intro (Eq.refl 0) (Eq.refl 1)) (OL A2 ([(d.1.1,d.1.2)]:List (Δ)) (([(d.1.1,d.1.2)]:List (Δ)).length) 2 λ_=>⟨rfl,rfl⟩)) (And.intro (by decide:0<1) (by decide:1<=Av))) (jt (bi 29 (lF λp=>rr HT [0,1,2,3,4,5,6,9] rfl p) (ja 32 10 1 (Gb (c:=AW) (L:=([d.2]:List Ξ)) (vals:=[.ints d.2]) rfl ⟨⟨_,rfl,⟨Ar,trivial⟩⟩,trivial⟩) (jg (And.intro (And.intro (And.intro (Eq.refl 0) (Eq.refl 1)) (OL AW ([d.2]:List Ξ) (([d.2]:List Ξ).length) 1 λ_=>⟨rfl,rfl⟩)) (And.intro (by decide:0<1) (by decide:1<=Av))) (jt (bi 37 (jg iX (jt (jt (jt (jg (Eq.refl (qI most fuel d)) (lF λp=>rr (tg:=[([(2,4)],(qI most fuel d))]) HT [0,1,2,3,4,5,6,11,9] rfl p)))))) (lF λp=>rr HT [0,1,2,3,4,5,6,11,9] rfl p)))))))))))
 | s1 X a I=>
  refine ag HT [0,1,2,3,4,5,6,7,8] (H0.t) (AH 42 [(6,.ref 2 0),(7,.ref 3 0),(8,.ref 4 0),(9,.ref 5 0),(10,.ref 6 0),(11,.ref 8 0),(12,.ints d.2)]) (zKt most X a I d) λN=>?_
  revert r;apply gO
  exact bi 19 (λp r h=>by
   cases h;refine gs (AJ 5 HT) [0,1,2,3,4,5,6,7] p (Dr (Pk Tryz.f26 15) 5 []) (AH 42 []) (zKs most X a I) ?_;exact pX (o0:=_) (o1:=_) rfl) (gc (gw 22 (jt (ja 25 9 2 (Gb (c:=A2) (L:=([(d.1.1,d.1.2)]:List (Δ))) (vals:=[.agg 2 (L1 [.i d.1.1,.i d.1.2])]) rfl ⟨⟨_,rfl,⟨Ar,Ar,trivial⟩⟩,trivial⟩) (gc (gn λv=>gn λw=>jg (And.intro (And.intro (And.intro (Eq.refl 0) (Eq.refl 1)) (OL A2 ([(d.1.1,d.1.2)]:List (Δ)) (([(d.1.1,d.1.2)]:List (Δ)).length) 2 λ_=>⟨rfl,rfl⟩)) (And.intro (And.intro (Eq.refl 0) v) w)) (ja 26 10 2 (Vf (enc:=(Xv A2)) (L:=I) (L':=([(d.1.1,d.1.2)]:List (Δ))) rfl rfl λ_ _ _ _=>Ar) (jt (bi 29 (lF λp=>rr HT [0,1,2,3,4,5,6,10] rfl p) (ja 32 11 1 (Gb (c:=AW) (L:=([d.2]:List Ξ)) (vals:=[.ints d.2]) rfl ⟨⟨_,rfl,⟨Ar,trivial⟩⟩,trivial⟩) (jg (And.intro (And.intro (And.intro (Eq.refl 0) (Eq.refl 1)) (OL AW ([d.2]:List Ξ) (([d.2]:List Ξ).length) 1 λ_=>⟨rfl,rfl⟩)) (And.intro (by decide:0<1) (by decide:1<=Av))) (jt (bi 37 (jg iX (jt (jt (jt (jg (Eq.refl (qH most X d I)) (lF λp=>rr (tg:=[([(2,4)],(qH most X d I))]) HT [0,1,2,3,4,5,6,12,10] rfl p)))))) (lF λp=>rr HT [0,1,2,3,4,5,6,12,10] rfl p))))))))))))))
 | s2 Y b o e J K=>
  refine ag HT [0,1,2,3,4,5,6,7,8,9] (H0.t) (AH 42 [(6,.ref 2 0),(7,.ref 3 0),(8,.ref 4 0),(9,.ref 5 0),(10,.ref 6 0),(11,.ref 9 0),(12,.ints d.2)]) (zKr most Y b o e J K d) λN=>?_
  revert r;apply gO
  exact bi 19 (λp r h=>by
   cases h;refine gs (AJ 5 HT) [0,1,2,3,4,5,6,7,8] p (Dr (Pk Tryz.f26 15) 5 []) (AH 42 []) (zKq most Y b o e J K) ?_;exact pX (o0:=_) (o1:=_) rfl) (gc (gw 22 (jt (ja 25 10 2 (Gb (c:=A2) (L:=([(d.1.1,d.1.2)]:List (Δ))) (vals:=[.agg 2 (L1 [.i d.1.1,.i d.1.2])]) rfl ⟨⟨_,rfl,⟨Ar,Ar,trivial⟩⟩,trivial⟩) (gc (gn λv=>gn λw=>jg (And.intro (And.intro (And.intro (Eq.refl 0) (Eq.refl 1)) (OL A2 ([(d.1.1,d.1.2)]:List (Δ)) (([(d.1.1,d.1.2)]:List (Δ)).length) 2 λ_=>⟨rfl,rfl⟩)) (And.intro (And.intro (Eq.refl 0) v) w)) (ja 26 11 2 (Vf (enc:=(Xv A2)) (L:=K) (L':=([(d.1.1,d.1.2)]:List (Δ))) rfl rfl λ_ _ _ _=>Ar) (jt (bi 29 (lF λp=>rr HT [0,1,2,3,4,5,6,7,11] rfl p) (ja 32 12 1 (Gb (c:=AW) (L:=([d.2]:List Ξ)) (vals:=[.ints d.2]) rfl ⟨⟨_,rfl,⟨Ar,trivial⟩⟩,trivial⟩) (gc (gn λx=>gn λy=>jg (And.intro (And.intro (And.intro (Eq.refl 0) (Eq.refl 1)) (OL AW ([d.2]:List Ξ) (([d.2]:List Ξ).length) 1 λ_=>⟨rfl,rfl⟩)) (And.intro (And.intro (Eq.refl 0) x) y)) (ja 33 13 1 (Vf (enc:=(Xv AW)) (L:=J) (L':=([d.2]:List Ξ)) rfl rfl λ_ _ _ _=>Ar) (jt (bi 37 (jg iX (jt (jt (jt (jg (Eq.refl (qG most Y J d K)) (lF λp=>rr (tg:=[([(2,4)],(qG most Y J d K))]) HT [0,1,2,3,4,5,6,13,11] rfl p)))))) (lF λp=>rr HT [0,1,2,3,4,5,6,13,11] rfl p))))))))))))))))
end
section
set_option maxRecDepth 100000
set_option maxHeartbeats 40000000
def im:HU -> X0
 | .s0=>some ([],[],false)
 | .s1 _ n t=>if n=t.length then some ([],t,false) else none
 | .s2 _ k n b l t=>if k=l.length/\ n=t.length then some (l,t,b) else none
def No (r:HU×Nat):Option (X0):=if r.2=2 then some none else (im r.1).map λx=>some (x.1,x.2.1,r.2==1&&x.2.2)
def LF (n:Nat)(q:AA)(pos:Ξ)(most fuel:Int):Option (X0):=(OQ n q pos).bind λl=>(CY (JB n most fuel) l .s0).bind No
def sn (N:Ψ)(ρ:List AK)(w:World):X0 -> Ending -> World -> Prop
 | some r,e,w'=>∃ v,e= .returned v/\ B8 Tryz.prog GG N [] ρ w true (.tup 3 (L1 [.sl 1 r.1.length (AO AW r.1),.sl 2 r.2.1.length (AO A2 r.2.1),.bool r.2.2])) [] v w'
 | none,e,w'=>e= .panicked (pan HF)/\ Az w w'
variable {w:World}{ρ:List AK}{N:Ψ}
def zB7 {h:DH}{ρ':List AK}{w':World}(h0:As Tryz.prog GG N [] ρ w)(st:A3 [] ρ w h ρ' w'):Az w w':=by
 have low: ∀ b,MO [] ρ b -> False:=λb ⟨k,_,_,q,_⟩=>by simp at q
 have t:AS (λ_=>False) w w':=st.upd.mono λb _ c=>low b c
 exact t.toExt λ_ _ h=>h
variable {D:Nat}
def b9 (k:w.heap[D]? =some (.deferred (some []))):EM D [{ target:=.collected D,args:=#[] }] w:=⟨D,rfl,zBT _,k,λ_ h=>(by cases h),trivial⟩
variable {a0:Act}{a w0:World}{ρs ρ0:List AK}{most:Int}
def su (f:Int)(b:Bool)(d:As Tryz.prog GG N [] ρs a)(O:A3 [] ρs a [none,none,oC [.i most],oC [.i f],oC [.nils],oC [.nils],oC [.bool b]] ρ0 w0)(r:AU Tryz.prog GG N ⟨AH 42 [(8,.ref 4 0),(9,.ref 5 0),(10,.ref 6 0)],[none,none,oC [.i most],oC [.i f],oC [.nils],oC [.nils],oC [.bool b]]⟩ ρ0 a0 w0)(k:w0.heap[D]? =some (.deferred (some [])))(g:GG.ng<=D)(p:a.heap.size<=D):
 LeavesInM Fence.wide 0 Tryz.prog Tryz.f26 a0.tmps (λe w'=>∃ v,e= .returned v/\ B8 Tryz.prog GG N [] ρs a true (.tup 3 (L1 [.sl 1 (([]:List Ξ).length) (AO AW ([]:List Ξ)),.sl 2 (([]:List (Δ)).length) (AO A2 ([]:List (Δ))),.bool b])) [] v w') [{ target:=.collected D,args:=#[] }] .returning w0:=by
 refine cZ (B:=D) _ _ (b9 k) λW c=>?_
 have Z:=r.shut (QJ Z5) g c;obtain ⟨v,j,m⟩:=Xn (fn:=Tryz.f26) Z d (O.shut (c.mono λ_ _ h=>⟨zA4 p h.1,h.2⟩)) [] H0 [.nils,.nils,.bool b] (AM.tupL (l:=[.nils,.nils,.bool b]) (l':=[.sl 1 (([]:List Ξ).length) (AO AW ([]:List Ξ)),.sl 2 (([]:List (Δ)).length) (AO A2 ([]:List (Δ))),.bool b]) rfl ⟨(AM.sl_nil _ _),(AM.sl_nil _ _),Ar,trivial⟩) Z5 Z5;exact ⟨v,j,v,rfl,m⟩
def sr (t:List (Δ))(f:Int)(b:Bool)(d:As Tryz.prog GG N [] ρs a)(O:A3 [] ρs a [none,none,oC [.i most],oC [.i f],oC [.nils],oC [.msl 7 2 0 t.length],oC [.bool b],some (.arr 2 t.length (AO A2 t))] ρ0 w0)(r:AU Tryz.prog GG N ⟨AH 42 [(8,.ref 4 0),(9,.ref 5 0),(10,.ref 6 0)],[none,none,oC [.i most],oC [.i f],oC [.nils],oC [.msl 7 2 0 t.length],oC [.bool b],some (.arr 2 t.length (AO A2 t))]⟩ ρ0 a0 w0)(k:w0.heap[D]? =some (.deferred (some [])))(j:GG.ng<=D)(p:a.heap.size<=D):
 LeavesInM Fence.wide 0 Tryz.prog Tryz.f26 a0.tmps (λe w'=>∃ v,e= .returned v/\ B8 Tryz.prog GG N [] ρs a true (.tup 3 (L1 [.sl 1 (([]:List Ξ).length) (AO AW ([]:List Ξ)),.sl 2 t.length (AO A2 t),.bool b])) [] v w') [{ target:=.collected D,args:=#[] }] .returning w0:=by
 refine cZ (B:=D) _ _ (b9 k) λW c=>?_
 have Z:=r.shut (QJ Z5) j c;obtain ⟨v,m,n⟩:=Xn (fn:=Tryz.f26) Z d (O.shut (c.mono λ_ _ h=>⟨zA4 p h.1,h.2⟩)) [7] (H0.g (Eq.refl t.length)) [.nils,.sl 2 t.length (AO A2 t),.bool b] (AM.tupL (l:=[.nils,.sl 2 t.length (AO A2 t),.bool b]) (l':=[.sl 1 (([]:List Ξ).length) (AO AW ([]:List Ξ)),.sl 2 t.length (AO A2 t),.bool b]) rfl ⟨(AM.sl_nil _ _),Ar,Ar,trivial⟩) Z5 Z5;exact ⟨v,m,v,rfl,n⟩
def sq (l:List Ξ)(t:List (Δ))(f:Int)(b:Bool)(d:As Tryz.prog GG N [] ρs a)(O:A3 [] ρs a [none,none,oC [.i most],oC [.i f],oC [.msl 7 1 0 l.length],oC [.msl 8 2 0 t.length],oC [.bool b],some (.arr 1 l.length (AO AW l)),some (.arr 2 t.length (AO A2 t))] ρ0 w0)(r:AU Tryz.prog GG N ⟨AH 42 [(8,.ref 4 0),(9,.ref 5 0),(10,.ref 6 0)],[none,none,oC [.i most],oC [.i f],oC [.msl 7 1 0 l.length],oC [.msl 8 2 0 t.length],oC [.bool b],some (.arr 1 l.length (AO AW l)),some (.arr 2 t.length (AO A2 t))]⟩ ρ0 a0 w0)(k:w0.heap[D]? =some (.deferred (some [])))(j:GG.ng<=D)(p:a.heap.size<=D):
 LeavesInM Fence.wide 0 Tryz.prog Tryz.f26 a0.tmps (λe w'=>∃ v,e= .returned v/\ B8 Tryz.prog GG N [] ρs a true (.tup 3 (L1 [.sl 1 l.length (AO AW l),.sl 2 t.length (AO A2 t),.bool b])) [] v w') [{ target:=.collected D,args:=#[] }] .returning w0:=by
 refine cZ (B:=D) _ _ (b9 k) λW c=>?_
 have Z:=r.shut (QJ Z5) j c;obtain ⟨v,m,n⟩:=Xn (fn:=Tryz.f26) Z d (O.shut (c.mono λ_ _ h=>⟨zA4 p h.1,h.2⟩)) [7,8] (H0.g (Eq.refl l.length) |>.g (Eq.refl t.length)) [.sl 1 l.length (AO AW l),.sl 2 t.length (AO A2 t),.bool b] (AM.tupL (l:=[.sl 1 l.length (AO AW l),.sl 2 t.length (AO A2 t),.bool b]) (l':=[.sl 1 l.length (AO AW l),.sl 2 t.length (AO A2 t),.bool b]) rfl ⟨Ar,Ar,Ar,trivial⟩) Z5 Z5;exact ⟨v,m,v,rfl,n⟩
def qd:ST:=.rd 0 (.rd 1 (.ef 2 (.ef 3 (.ef 4 (.fin [] [8,9,10]) (.no)) (.no)) (.no)))
def zDP:B2 (A0 Tryz.f26 12) [2] qd:=Z1
def qF (most fuel:Int):St:=⟨(AH 42 [(8,.ref 4 0),(9,.ref 5 0),(10,.ref 6 0)]),([none,none,oC [.i most],oC [.i fuel],oC [.nils],oC [.nils],oC [.bool false]]:DH)⟩
def qc:ST:=.rd 0 (.rd 1 (.ef 2 (.ef 3 (.ef 4 (.fin [] [8,9,10]) (.no)) (.no)) (.no)))
def zDO:B2 (A0 Tryz.f26 12) [2] qc:=Z1
def qE (most f:Int)(t:List (Δ)):St:=⟨(AH 42 [(8,.ref 4 0),(9,.ref 5 0),(10,.ref 6 0)]),([none,none,oC [.i most],oC [.i f],oC [.nils],oC [.msl 7 2 0 t.length],oC [.bool false],some (.arr 2 t.length (AO A2 t))]:DH)⟩
def qb:ST:=.rd 0 (.rd 1 (.ef 2 (.ef 3 (.ef 4 (.fin [] [8,9,10]) (.no)) (.no)) (.no)))
def zDN:B2 (A0 Tryz.f26 12) [2] qb:=Z1
def qD (most f:Int)(l:List Ξ)(t:List (Δ)):St:=⟨(AH 42 [(8,.ref 4 0),(9,.ref 5 0),(10,.ref 6 0)]),([none,none,oC [.i most],oC [.i f],oC [.msl 7 1 0 l.length],oC [.msl 8 2 0 t.length],oC [.bool false],some (.arr 1 l.length (AO AW l)),some (.arr 2 t.length (AO A2 t))]:DH)⟩
def zKp (q:AA)(most fuel:Int):DH:=[oC (AE q),oC [.i most],oC [.i fuel],oC [.nils],oC [.nils],oC [.bool false]]
variable {Z:X0}{fuel:Int}{pos:Ξ}{q:AA}{n:Nat}
def zEg {l:List BP}{rE:HU×Nat}(hy:OQ n q pos=some l)(hf:CY (JB n most fuel) l .s0=some rE)(y:No rE=some Z) 
     (k:AU Tryz.prog GG N ⟨AH 42 [(0,.agg 5 (L1 (AE q))),(1,.ints pos),(2,.i most),(3,.i fuel)],[]⟩ ρ0 a0 w0) (Fy:a0.defers= []):
 I1 Fence.wide 0 Tryz.prog 26 (Ac Tryz.f26) (bodyPostM Fence.wide 0 Tryz.prog Tryz.f26 (sn N ρ0 w0 Z)) a0 w0:=by
 refine Rn (NW ?_);refine wr (L:=0) HC.x [1,4,6,7,8,9,10] [0,1,2,3,4,5] [] H0 H0 (AH 42 [(1,.ints pos),(4,.ref 0 0),(6,.ref 1 0),(7,.ref 2 0),(8,.ref 3 0),(9,.ref 4 0),(10,.ref 5 0)]) ([oC (AE q),oC [.i most],oC [.i fuel],oC [.nils],oC [.nils],oC [.bool false]]:DH) k Z5 Z5 λρ1 a1 w1 R1 R GQ Dd=>?_
 refine Rn (Rn (NW ?_));refine wr (L:=0) HC.x [6,7,8,9,10,15] [6,7,1,2,3,4,5] [] ((H0.c (em (zIH q pos (rfl:vu n q pos=some ())) [] (zKp q most fuel)))) H0 (AH 42 [(6,.ref 2 0),(7,.ref 3 0),(8,.ref 4 0),(9,.ref 5 0),(10,.ref 6 0),(15,.fn 49 2 (L1 [.ref 0 0,.ref 1 0]))]) ([oC (AE q),oC [.ints pos],oC [.i most],oC [.i fuel],oC [.nils],oC [.nils],oC [.bool false]]:DH) R1 Z5 Z5 λρ2 P w2 R2 S JX Mn=>?_
 obtain ⟨ρ3,U,X,TQ⟩:=A7.ros (L:=0) (fr:=AH 42 [(6,.ref 2 0),(7,.ref 3 0),(8,.ref 4 0),(9,.ref 5 0),(10,.ref 6 0),(15,.fn 49 2 (L1 [.ref 0 0,.ref 1 0]))]) (h:=[oC (AE q),oC [.ints pos],oC [.i most],oC [.i fuel],oC [.nils],oC [.nils],oC [.bool false]]) (h':=QG q pos 0++[oC [.i most],oC [.i fuel],oC [.nils],oC [.nils],oC [.bool false]]) [0,1] Z5 Z5 Tryz.prog GG N _ _ _ R2;refine zBH ?_;have HY:YW Tryz.prog GG kF 49 (λl=>.yl l::(List.range 2).map (L1 [.ref 0 0,.ref 1 0])) (λ_=>QG q pos 0) (l.map UF):=zIB q pos l hy;refine zFr (KK:=7) (T:=[oC [.i most],oC [.i fuel],oC [.nils],oC [.nils],oC [.bool false]]) ⟨_,Tryz.func26⟩ U Z5 HY Z5 Z5 (λx d=>by obtain ⟨z,_,rfl⟩:=zL1.1 d;rfl) Z5 ⟨.s0,by rw [zQF];exact hf,rfl⟩ (zFA [.ret] rfl (pan HF) UF l (JB n most fuel) (Vc most fuel) (λI=>AH 42 [(6,.ref 2 0),(7,.ref 3 0),(8,.ref 4 0),(9,.ref 5 0),(10,.ref 6 0),(15,.fn 49 2 (L1 [.ref 0 0,.ref 1 0])),(16,.agg 2 (L1 [.i I.1.1,.i I.1.2])),(17,.ints I.2)]) (λl B N x s r h=>zEq n most fuel l B N x s r h) (λs=>by cases s <;> kernel_rfl) Z5) λD e h8 ρ8 G hl J Nd cg o Y=>?_
 have Q:=((R.trans S).trans X).trans Nd;have v:GG.ng<=D:=zA4 (GG.lo _ U.hr.gi) Y;have p:w0.heap.size<=D:=zA4 (((R.trans S).trans X).upd.size) Y;have K:P.defers= []:=by rw [JX,GQ,Fy]
 have M: ∀ {a:Act},a.defers= { target:=.collected D,args:=#[] }::P.defers -> a.defers= [{ target:=.collected D,args:=#[] }]:=λh=>by rw [h,K]
 rcases hl with ⟨rfl,s,H,rfl⟩ | ⟨d,O,rfl⟩ | ⟨c,rfl,rfl,h2,rfl⟩
 ·rw [zJu,List.drop_length] at H;have e:(s,0)=rE:=zA2 H;subst e;have j:AU Tryz.prog GG N ⟨AH 42 [(6,.ref 2 0),(7,.ref 3 0),(8,.ref 4 0),(9,.ref 5 0),(10,.ref 6 0),(15,.fn 49 2 (L1 [.ref 0 0,.ref 1 0]))],Vc most fuel s⟩ ρ8 { P with defers:={ target:=.collected D,args:=#[] }::P.defers } G:=⟨J.hr,J.fr⟩;cases s with
  | s0=>
   cases y;refine Rn (NW ?_);refine gK (L:=0) HC.x [2] qd zDP [([(2,4)],(qF most fuel))] [8,9,10] [0,1,2,3,4,5,6] [] ((H0.t |>.t |>.t |>.g (Eq.refl (qF most fuel)))) H0 (AH 42 [(8,.ref 4 0),(9,.ref 5 0),(10,.ref 6 0)]) ([none,none,oC [.i most],oC [.i fuel],oC [.nils],oC [.nils],oC [.bool false]]:DH) j Z5 λρ10 w A C m F wg=>?_
   refine NW (zQE ?_)
   show LeavesInM _ _ _ _ _ _ w.defers .returning A
   rw [M F];exact su fuel false k.hr (Q.trans m) C (nn j.hr m o) v p
  | s1 f E t=>
   have y:(if E=t.length then some ([],t,false) else none:X0).map (λx=>some (x.1,x.2.1,false))=some Z:=y;obtain ⟨x,d,rfl⟩:=zLX.1 y;obtain ⟨rfl,u⟩:=DE d;cases u;refine Rn (NW ?_);refine gK (L:=0) HC.x [2] qc zDO [([(2,4)],(qE most f t))] [8,9,10] [0,1,2,3,4,5,6,7] [] ((H0.t |>.t |>.t |>.g (Eq.refl (qE most f t)))) H0 (AH 42 [(8,.ref 4 0),(9,.ref 5 0),(10,.ref 6 0)]) ([none,none,oC [.i most],oC [.i f],oC [.nils],oC [.msl 7 2 0 t.length],oC [.bool false],some (.arr 2 t.length (AO A2 t))]:DH) j Z5 λρ10 w A C m F wg=>?_
   refine NW (zQE ?_)
   show LeavesInM _ _ _ _ _ _ w.defers .returning A
   rw [M F];exact sr t f false k.hr (Q.trans m) C (nn j.hr m o) v p
  | s2 f V E b l t=>
   have y:(if V=l.length/\ E=t.length then some (l,t,b) else none:X0).map (λx=>some (x.1,x.2.1,false))=some Z:=y;obtain ⟨x,d,rfl⟩:=zLX.1 y;obtain ⟨⟨rfl,rfl⟩,u⟩:=DE d;cases u;refine Rn (NW ?_);refine gK (L:=0) HC.x [2] qb zDN [([(2,4)],(qD most f l t))] [8,9,10] [0,1,2,3,4,5,6,7,8] [] ((H0.t |>.t |>.t |>.g (Eq.refl (qD most f l t)))) H0 (AH 42 [(8,.ref 4 0),(9,.ref 5 0),(10,.ref 6 0)]) ([none,none,oC [.i most],oC [.i f],oC [.msl 7 1 0 l.length],oC [.msl 8 2 0 t.length],oC [.bool false],some (.arr 1 l.length (AO AW l)),some (.arr 2 t.length (AO A2 t))]:DH) j Z5 λρ10 w A C m F wg=>?_
   refine NW (zQE ?_)
   show LeavesInM _ _ _ _ _ _ w.defers .returning A
   rw [M F];exact sq l t f false k.hr (Q.trans m) C (nn j.hr m o) v p
 ·obtain ⟨s,c⟩:=rE
  have hc:c=1/\ e= .ret:=by
   rcases c with _ | _ | c
   ·cases O;cases d
   ·cases O;exact ⟨rfl,rfl⟩
   ·exact absurd O Z3
  obtain ⟨rfl,rfl⟩:=hc;have j:AU Tryz.prog GG N ⟨AH 42 [(8,.ref 4 0),(9,.ref 5 0),(10,.ref 6 0)],Vc most fuel s⟩ ρ8 P G:=J.forg [8,9,10] rfl Z5
  show LeavesInM _ _ _ _ _ _ ({ target:=.collected D,args:=#[] }::P.defers) .returning G
  rw [K];cases s with
  | s0=>
   cases y;exact su (a0:=P) fuel false k.hr Q j o v p
  | s1 f E t=>
   have y:(if E=t.length then some ([],t,false) else none:X0).map (λx=>some (x.1,x.2.1,x.2.2))=some Z:=y;obtain ⟨x,d,rfl⟩:=zLX.1 y;obtain ⟨rfl,u⟩:=DE d;cases u;exact sr (a0:=P) t f false k.hr Q j o v p
  | s2 f V E b l t=>
   have y:(if V=l.length/\ E=t.length then some (l,t,b) else none:X0).map (λx=>some (x.1,x.2.1,x.2.2))=some Z:=y;obtain ⟨x,d,rfl⟩:=zLX.1 y;obtain ⟨⟨rfl,rfl⟩,u⟩:=DE d;cases u;exact sq (a0:=P) l t f b k.hr Q j o v p
 ·have y:(some none:Option (X0))=some Z:=by
   rw [←y];unfold No;exact (zAE (show rE.2=2 from h2)).symm
  cases y
  show LeavesInM _ _ _ _ _ _ ({ target:=.collected D,args:=#[] }::P.defers) (.panicking (pan HF)) G
  rw [K];exact cc (B:=D) Z3 _ _ (b9 o) λW H=>⟨rfl,zB7 k.hr (Q.shut (H.mono λ_ _ h=>⟨zA4 p h.1,h.2⟩))⟩
def sd (h:LF n q pos most fuel=some Z){args:Array Value}(HR:As Tryz.prog GG N [] ρ w)(a:BB (MS N [] ρ) w ρ [.agg 5 (L1 (AE q)),.ints pos,.i most,.i fuel] args):CallsIn Fence.wide 0 Tryz.prog 26 args w (sn N ρ w Z):=by
 obtain ⟨l,hy,h⟩:=Gq h;obtain ⟨rE,O,y⟩:=Gq h;refine zOe (c:=Ac Tryz.f26) Tryz.func26 Z5 trivial ?_;refine zEg hy O y (N:=N) (ρ0:=ρ) ⟨HR,?_⟩ rfl;have G:([.agg 5 (L1 (AE q)),.ints pos,.i most,.i fuel]:List DV).length=args.size:=a.1;have e:([.agg 5 (L1 (AE q)),.ints pos,.i most,.i fuel]:List DV)++List.replicate (Tryz.f26.ntmps-([.agg 5 (L1 (AE q)),.ints pos,.i most,.i fuel]:List DV).length) .any=AH 42 [(0,.agg 5 (L1 (AE q))),(1,.ints pos),(2,.i most),(3,.i fuel)]:=Z5
 rw [←e,G];exact BB.append a (BB.anys _ _ _ _)
def sZ {r:List Ξ×List (Δ)×Bool}(h:LF n q pos most fuel=some (some r)):EQ 26 [.agg 5 (L1 (AE q)),.ints pos,.i most,.i fuel] [] (.tup 3 (L1 [.sl 1 r.1.length (AO AW r.1),.sl 2 r.2.1.length (AO A2 r.2.1),.bool r.2.2])) [] true:=by
 have m:(Tryz.f26.name== "runtime.NumGoroutine")=false:=Z5
 exact ⟨⟨Tryz.f26,Tryz.func26,by simpa using m,Z5⟩,λN ρ w args HR F=>(zPy (n:=0)).1 (sd h HR F)⟩
def sY (h:LF n q pos most fuel=some none):zA3 26 [.agg 5 (L1 (AE q)),.ints pos,.i most,.i fuel] HF:=
 ⟨λargs W=>Jd Tryz.func26 Z5 Z5 args W,λ_ _ _ _ HR a=>sd h HR a⟩
end
abbrev zMe:=@Go.wpIn_cond_false
abbrev zQG:=@Go.wpSIn_region
section
set_option maxRecDepth 100000
set_option maxHeartbeats 40000000
theorem zy (C:Value)(w0:World):CallsDIn Fence.wide (0-1) Tryz.prog 25 #[C] .returning w0 λe s w'=>(∃ v,e= .returned v)/\ s= .returning/\ w'=w0:=by
 refine callsDIn_of_wpSIn Tryz.func25 rfl trivial λG cs a=>?_
 apply wpSIn_seq;apply zQG;simp [wpOpsSIn,go_sem,recoverD,a,Tryz.ntmps25,Exit.thenS,Fence.wide];apply wpSIn_seq;apply zQG;simp [wpOpsSIn,go_sem,Exit.thenS];refine wpSIn_cond (t:=false) (by simp [Act.eval,Array.replicate]) ?_;simp only [zLk,zP3];refine wpSIn_of_wpIn rfl (zQB ?_);cases G
 simp_all [bodyPostS,results,Tryz.results25,go_sem]
variable {C:Value}{w0:World}{ρ0:List AK}{N:Ψ}{x:Int}{q:AA}
def zOc (HR:As Tryz.prog GG N [oC [.i x],oC (AE q)] ρ0 w0)(B:AI (MS N [oC [.i x],oC (AE q)] ρ0) w0 (.ref 0 0) ρ0 C):
 CallsDIn Fence.wide (0-1) Tryz.prog 25 #[C] (.panicking (pan HF)) w0 λe s w'=>(∃ v,e= .returned v)/\ s= .panicking [{ v:=HF,recovered:=true }]/\ ∃ ρ',As Tryz.prog GG N [oC [.i 220],oC (AE q)] ρ' w'/\ A3 [oC [.i x],oC (AE q)] ρ0 w0 [oC [.i 220],oC (AE q)] ρ' w'/\ B0 2 ρ0 ρ':=by
 refine callsDIn_of_wpSIn Tryz.func25 rfl trivial λc₀ cs b=>?_
 apply wpSIn_seq;apply zQG;simp [wpOpsSIn,go_sem,recoverD,b,Tryz.ntmps25,Exit.thenS,Fence.wide,pan,HF];apply wpSIn_seq;apply zQG;simp [wpOpsSIn,go_sem,Exit.thenS];refine wpSIn_cond (t:=true) (by simp [Act.eval,Array.replicate]) ?_;simp only [zL0];refine wpSIn_of_wpIn rfl ?_
 have r:AU Tryz.prog GG N ⟨AH 13 [(0,.ref 0 0),(2,.i 220)],[oC [.i x],oC (AE q)]⟩ ρ0 { tmps:=#[C]++((((((((Array.replicate 12 undef).setIfInBounds 4 (Value.iface 30 (Value.int IntKind.i64 220))).setIfInBounds 5 (Value.tuple #[Value.int IntKind.i64 220,Value.bool true])).setIfInBounds 3 (Value.tuple #[Value.int IntKind.i64 220,Value.bool true])).setIfInBounds 6 (Value.int IntKind.i64 220)).setIfInBounds 7 (Value.bool true)).setIfInBounds 1 (Value.int IntKind.i64 220)).setIfInBounds 2 (Value.bool true)).setIfInBounds 8 (Value.bool true),defers:=[] } w0:=by
  refine ⟨HR,rfl,λj a=>?_⟩;have a:j<13:=a
  match j,a with
  | 0,_=>exact B
  | 2,_=>exact rfl
  | 1,_=>trivial
  | 3,_=>trivial
  | 4,_=>trivial
  | 5,_=>trivial
  | 6,_=>trivial
  | 7,_=>trivial
  | 8,_=>trivial
  | 9,_=>trivial
  | 10,_=>trivial
  | 11,_=>trivial
  | 12,_=>trivial
  | j+13,a=>exact absurd a Z2
 refine wr (L:=2) HC.x [] [0,1] [] ((H0.t)) H0 (AH 13 []) ([oC [.i 220],oC (AE q)]:DH) r Z5 Z5 λρ1 a1 w1 y k K c=>?_
 simp [bodyPostS,results,Tryz.results25,K,go_sem];exact ⟨ρ1,y.hr,k,c⟩
variable {fuel:Int}
def zz (HR:As Tryz.prog GG N [oC [.i x],oC [.i fuel],oC (AE q)] ρ0 w0)(B:AI (MS N [oC [.i x],oC [.i fuel],oC (AE q)] ρ0) w0 (.ref 0 0) ρ0 C):
 CallsDIn Fence.wide (0-1) Tryz.prog 25 #[C] (.panicking (pan HF)) w0 λe s w'=>(∃ v,e= .returned v)/\ s= .panicking [{ v:=HF,recovered:=true }]/\ ∃ ρ',As Tryz.prog GG N [oC [.i 220],oC [.i fuel],oC (AE q)] ρ' w'/\ A3 [oC [.i x],oC [.i fuel],oC (AE q)] ρ0 w0 [oC [.i 220],oC [.i fuel],oC (AE q)] ρ' w'/\ B0 3 ρ0 ρ':=by
 refine callsDIn_of_wpSIn Tryz.func25 rfl trivial λc₀ cs b=>?_
 apply wpSIn_seq;apply zQG;simp [wpOpsSIn,go_sem,recoverD,b,Tryz.ntmps25,Exit.thenS,Fence.wide,pan,HF];apply wpSIn_seq;apply zQG;simp [wpOpsSIn,go_sem,Exit.thenS];refine wpSIn_cond (t:=true) (by simp [Act.eval,Array.replicate]) ?_;simp only [zL0];refine wpSIn_of_wpIn rfl ?_
 have r:AU Tryz.prog GG N ⟨AH 13 [(0,.ref 0 0),(2,.i 220)],[oC [.i x],oC [.i fuel],oC (AE q)]⟩ ρ0 { tmps:=#[C]++((((((((Array.replicate 12 undef).setIfInBounds 4 (Value.iface 30 (Value.int IntKind.i64 220))).setIfInBounds 5 (Value.tuple #[Value.int IntKind.i64 220,Value.bool true])).setIfInBounds 3 (Value.tuple #[Value.int IntKind.i64 220,Value.bool true])).setIfInBounds 6 (Value.int IntKind.i64 220)).setIfInBounds 7 (Value.bool true)).setIfInBounds 1 (Value.int IntKind.i64 220)).setIfInBounds 2 (Value.bool true)).setIfInBounds 8 (Value.bool true),defers:=[] } w0:=by
  refine ⟨HR,rfl,λj a=>?_⟩;have a:j<13:=a
  match j,a with
  | 0,_=>exact B
  | 2,_=>exact rfl
  | 1,_=>trivial
  | 3,_=>trivial
  | 4,_=>trivial
  | 5,_=>trivial
  | 6,_=>trivial
  | 7,_=>trivial
  | 8,_=>trivial
  | 9,_=>trivial
  | 10,_=>trivial
  | 11,_=>trivial
  | 12,_=>trivial
  | j+13,a=>exact absurd a Z2
 refine wr (L:=3) HC.x [] [0,1,2] [] ((H0.t)) H0 (AH 13 []) ([oC [.i 220],oC [.i fuel],oC (AE q)]:DH) r Z5 Z5 λρ1 a1 w1 y k K c=>?_
 simp [bodyPostS,results,Tryz.results25,K,go_sem];exact ⟨ρ1,y.hr,k,c⟩
variable {F:Value}{u:FrameMode}
def zNM (HR:As Tryz.prog GG N [oC [.i 0],oC [.i fuel],oC (AE q)] ρ0 w0)(B:AI (MS N [oC [.i 0],oC [.i fuel],oC (AE q)] ρ0) w0 (.ref 0 0) ρ0 C)(b:AI (MS N [oC [.i 0],oC [.i fuel],oC (AE q)] ρ0) w0 (.ref 1 0) ρ0 F):
 CallsDIn Fence.wide (0-1) Tryz.prog 24 #[C,F] u w0 λe s w'=>(∃ v,e= .returned v)/\ s=u/\ ∃ ρ',As Tryz.prog GG N [oC [.i 0],oC [.i fuel],oC (AE q)] ρ' w'/\ A3 [oC [.i 0],oC [.i fuel],oC (AE q)] ρ0 w0 [oC [.i 0],oC [.i fuel],oC (AE q)] ρ' w'/\ B0 3 ρ0 ρ':=by
 have key:CallsDIn Fence.wide (0-1) Tryz.prog 24 #[C,F] u w0 λe s w'=>s=u/\ ((∃ v,e= .returned v)/\ ∃ ρ',As Tryz.prog GG N [oC [.i 0],oC [.i fuel],oC (AE q)] ρ' w'/\ A3 [oC [.i 0],oC [.i fuel],oC (AE q)] ρ0 w0 [oC [.i 0],oC [.i fuel],oC (AE q)] ρ' w'/\ B0 3 ρ0 ρ'):=by
  refine callsDIn_of_wp (c:=Ac Tryz.f24) Tryz.func24 Z5 trivial ?_
  have r:AU Tryz.prog GG N ⟨AH 8 [(0,.ref 0 0),(1,.ref 1 0)],[oC [.i 0],oC [.i fuel],oC (AE q)]⟩ ρ0 { tmps:=#[C,F]++Array.replicate (Tryz.f24.ntmps- #[C,F].size) undef,defers:=[] } w0:=by
   refine ⟨HR,?_⟩;have f:BB (MS N [oC [.i 0],oC [.i fuel],oC (AE q)] ρ0) w0 ρ0 [.ref 0 0,.ref 1 0] #[C,F]:=⟨rfl,λj a=>match j,a with | 0,_=>B | 1,_=>b | j+2,a=>absurd a Z3⟩;exact BB.append f (BB.anys _ _ _ 6)
  refine zLp ?_;refine wr (L:=3) HC.x [0,7] [0,1,2] [] H0 H0 (AH 8 [(0,.ref 0 0),(7,.bool false)]) ([oC [.i 0],oC [.i fuel],oC (AE q)]:DH) r Z5 Z5 λρ1 a1 w1 y k K d=>?_
  refine zMe (BV y (.tmp 7)) (zQB ?_);refine ⟨by rw [K],?_⟩;simp [results,Tryz.results24,go_sem];exact ⟨ρ1,y.hr,k,d⟩
 exact key.mono λe s w' ⟨g,h,l⟩=>⟨h,g,l⟩
def zNL (c:decide (fuel>65536)=true)(HR:As Tryz.prog GG N [oC [.i 220],oC [.i fuel],oC (AE q)] ρ0 w0)(B:AI (MS N [oC [.i 220],oC [.i fuel],oC (AE q)] ρ0) w0 (.ref 0 0) ρ0 C)(b:AI (MS N [oC [.i 220],oC [.i fuel],oC (AE q)] ρ0) w0 (.ref 1 0) ρ0 F):
 CallsDIn Fence.wide (0-1) Tryz.prog 24 #[C,F] u w0 λe s w'=>(∃ v,e= .returned v)/\ s=u/\ ∃ ρ',As Tryz.prog GG N [oC [.i 2],oC [.i fuel],oC (AE q)] ρ' w'/\ A3 [oC [.i 220],oC [.i fuel],oC (AE q)] ρ0 w0 [oC [.i 2],oC [.i fuel],oC (AE q)] ρ' w'/\ B0 3 ρ0 ρ':=by
 have key:CallsDIn Fence.wide (0-1) Tryz.prog 24 #[C,F] u w0 λe s w'=>s=u/\ ((∃ v,e= .returned v)/\ ∃ ρ',As Tryz.prog GG N [oC [.i 2],oC [.i fuel],oC (AE q)] ρ' w'/\ A3 [oC [.i 220],oC [.i fuel],oC (AE q)] ρ0 w0 [oC [.i 2],oC [.i fuel],oC (AE q)] ρ' w'/\ B0 3 ρ0 ρ'):=by
  refine callsDIn_of_wp (c:=Ac Tryz.f24) Tryz.func24 Z5 trivial ?_
  have r:AU Tryz.prog GG N ⟨AH 8 [(0,.ref 0 0),(1,.ref 1 0)],[oC [.i 220],oC [.i fuel],oC (AE q)]⟩ ρ0 { tmps:=#[C,F]++Array.replicate (Tryz.f24.ntmps- #[C,F].size) undef,defers:=[] } w0:=by
   refine ⟨HR,?_⟩;have f:BB (MS N [oC [.i 220],oC [.i fuel],oC (AE q)] ρ0) w0 ρ0 [.ref 0 0,.ref 1 0] #[C,F]:=⟨rfl,λj a=>match j,a with | 0,_=>B | 1,_=>b | j+2,a=>absurd a Z3⟩;exact BB.append f (BB.anys _ _ _ 6)
  refine zLp ?_;refine wr (L:=3) HC.x [0,7] [0,1,2] [] H0 H0 (AH 8 [(0,.ref 0 0),(7,.bool (decide (fuel>65536)))]) ([oC [.i 220],oC [.i fuel],oC (AE q)]:DH) r Z5 Z5 λρ1 d w1 y k K g=>?_
  refine wpIn_cond_true ((show d.eval (.tmp 7)= .bool (decide (fuel>65536)) from BV y (.tmp 7)).trans (by rw [c])) ?_;refine wr (L:=3) HC.x [] [0,1,2] [] ((H0.t)) H0 (AH 8 []) ([oC [.i 2],oC [.i fuel],oC (AE q)]:DH) y Z5 Z5 λρ2 a2 w2 Z h l m=>?_
  refine ⟨by rw [l,K],?_⟩;simp [results,Tryz.results24,go_sem];exact ⟨ρ2,Z.hr,(k.trans h),(B0.trans g m)⟩
 exact key.mono λe s w' ⟨n,o,p⟩=>⟨o,n,p⟩
def zNK (c:decide (fuel>65536)=false)(HR:As Tryz.prog GG N [oC [.i 220],oC [.i fuel],oC (AE q)] ρ0 w0)(B:AI (MS N [oC [.i 220],oC [.i fuel],oC (AE q)] ρ0) w0 (.ref 0 0) ρ0 C)(b:AI (MS N [oC [.i 220],oC [.i fuel],oC (AE q)] ρ0) w0 (.ref 1 0) ρ0 F):
 CallsDIn Fence.wide (0-1) Tryz.prog 24 #[C,F] u w0 λe s w'=>(∃ v,e= .returned v)/\ s=u/\ ∃ ρ',As Tryz.prog GG N [oC [.i 220],oC [.i fuel],oC (AE q)] ρ' w'/\ A3 [oC [.i 220],oC [.i fuel],oC (AE q)] ρ0 w0 [oC [.i 220],oC [.i fuel],oC (AE q)] ρ' w'/\ B0 3 ρ0 ρ':=by
 have key:CallsDIn Fence.wide (0-1) Tryz.prog 24 #[C,F] u w0 λe s w'=>s=u/\ ((∃ v,e= .returned v)/\ ∃ ρ',As Tryz.prog GG N [oC [.i 220],oC [.i fuel],oC (AE q)] ρ' w'/\ A3 [oC [.i 220],oC [.i fuel],oC (AE q)] ρ0 w0 [oC [.i 220],oC [.i fuel],oC (AE q)] ρ' w'/\ B0 3 ρ0 ρ'):=by
  refine callsDIn_of_wp (c:=Ac Tryz.f24) Tryz.func24 Z5 trivial ?_
  have r:AU Tryz.prog GG N ⟨AH 8 [(0,.ref 0 0),(1,.ref 1 0)],[oC [.i 220],oC [.i fuel],oC (AE q)]⟩ ρ0 { tmps:=#[C,F]++Array.replicate (Tryz.f24.ntmps- #[C,F].size) undef,defers:=[] } w0:=by
   refine ⟨HR,?_⟩;have f:BB (MS N [oC [.i 220],oC [.i fuel],oC (AE q)] ρ0) w0 ρ0 [.ref 0 0,.ref 1 0] #[C,F]:=⟨rfl,λj a=>match j,a with | 0,_=>B | 1,_=>b | j+2,a=>absurd a Z3⟩;exact BB.append f (BB.anys _ _ _ 6)
  refine zLp ?_;refine wr (L:=3) HC.x [0,7] [0,1,2] [] H0 H0 (AH 8 [(0,.ref 0 0),(7,.bool (decide (fuel>65536)))]) ([oC [.i 220],oC [.i fuel],oC (AE q)]:DH) r Z5 Z5 λρ1 d w1 y k K g=>?_
  refine zMe ((show d.eval (.tmp 7)= .bool (decide (fuel>65536)) from BV y (.tmp 7)).trans (by rw [c])) (zQB ?_);refine ⟨by rw [K],?_⟩;simp [results,Tryz.results24,go_sem];exact ⟨ρ1,y.hr,k,g⟩
 exact key.mono λe s w' ⟨h,l,m⟩=>⟨l,h,m⟩
end
section
set_option maxRecDepth 100000
set_option maxHeartbeats 40000000
variable {a0:Act}{w0:World}{ρs ρ0:List AK}{N:Ψ}{W u:DV}{e fuel:Int}{t:List (Δ)}{l:List Ξ}{q:AA}
def nY (r:AM W (.sl 1 l.length (AO AW l)))(Z:AM u (.sl 2 t.length (AO A2 t))){a:World}(D:As Tryz.prog GG N [] ρs a)(O:A3 [] ρs a [oC [.i e],oC [.i fuel],oC (AE q)] ρ0 w0)(b:AU Tryz.prog GG N ⟨AH 39 [(6,W),(7,u),(8,.ref 0 0)],[oC [.i e],oC [.i fuel],oC (AE q)]⟩ ρ0 a0 w0):LeavesInM Fence.wide 0 Tryz.prog Tryz.f10 a0.tmps (λB w'=>∃ v,B= .returned v/\ B8 Tryz.prog GG N [] ρs a true (.tup 3 (L1 [.sl 1 l.length (AO AW l),.sl 2 t.length (AO A2 t),.i e])) [] v w') [] .returning w0:=by
 obtain ⟨v,c,d⟩:=Xn (fn:=Tryz.f10) b D O [] H0 [W,u,.i e] (AM.tupL (l:=[W,u,.i e]) (l':=[.sl 1 l.length (AO AW l),.sl 2 t.length (AO A2 t),.i e]) rfl ⟨r,Z,Ar,trivial⟩) Z5 Z5;exact ⟨v,c,v,rfl,d⟩
variable {M P:Value}{b:World}{a:DV}
def yr (c:AM a (.sl 1 l.length (AO AW l)))(Z:AM u (.sl 2 t.length (AO A2 t)))(D:As Tryz.prog GG N [] ρs b)(O:A3 [] ρs b [oC [.i 0],oC [.i fuel],oC (AE q)] ρ0 w0)(d:(AH 39 [(6,a),(7,u),(8,.ref 0 0)]).all (CP 3)=true)(r:AU Tryz.prog GG N ⟨AH 39 [(6,a),(7,u),(8,.ref 0 0)],[oC [.i 0],oC [.i fuel],oC (AE q)]⟩ ρ0 a0 w0)(H:BB (MS N [oC [.i 0],oC [.i fuel],oC (AE q)] ρ0) w0 ρ0 [.ref 0 0,.ref 1 0] #[M,P]):LeavesInM Fence.wide 0 Tryz.prog Tryz.f10 a0.tmps (λB w'=>∃ v,B= .returned v/\ B8 Tryz.prog GG N [] ρs b true (.tup 3 (L1 [.sl 1 l.length (AO AW l),.sl 2 t.length (AO A2 t),.i 0])) [] v w') [{ target:=.fn (.func 25) #[],args:=#[M] },{ target:=.fn (.func 24) #[M,P],args:=#[] }] .returning w0:=by
 refine OX Z3 (λargs W=>Jd Tryz.func25 Z5 Z5 args W) (by simp: #[M]++(#[]:Array Value)= #[M]) ?_;refine (zy M w0).mono ?_;rintro e s w1 ⟨⟨v,rfl⟩,rfl,rfl⟩;refine OX (by simp [settle]) (λargs W=>Jd Tryz.func24 Z5 Z5 args W) (by simp:(#[]:Array Value)++#[M,P]= #[M,P]) ?_;refine (zNM r.hr (H.at 0) (H.at 1)).mono ?_;rintro e s w' ⟨⟨v,rfl⟩,rfl,ρ1,f,k,g⟩;exact nY (a0:=a0) (e:=0) c Z D (O.trans k) ⟨f,HD (L:=3) r.fr d f k g⟩
def zNH (m:AM a (.sl 1 l.length (AO AW l)))(n:AM u (.sl 2 t.length (AO A2 t)))(D:As Tryz.prog GG N [] ρs b)(O:A3 [] ρs b [oC [.i 0],oC [.i fuel],oC (AE q)] ρ0 w0)(d:(AH 39 [(6,a),(7,u),(8,.ref 0 0)]).all (CP 3)=true)(r:AU Tryz.prog GG N ⟨AH 39 [(6,a),(7,u),(8,.ref 0 0)],[oC [.i 0],oC [.i fuel],oC (AE q)]⟩ ρ0 a0 w0)(H:BB (MS N [oC [.i 0],oC [.i fuel],oC (AE q)] ρ0) w0 ρ0 [.ref 0 0,.ref 1 0] #[M,P])(c:decide (fuel>65536)=true):LeavesInM Fence.wide 0 Tryz.prog Tryz.f10 a0.tmps (λB w'=>∃ v,B= .returned v/\ B8 Tryz.prog GG N [] ρs b true (.tup 3 (L1 [.sl 1 l.length (AO AW l),.sl 2 t.length (AO A2 t),.i 2])) [] v w') [{ target:=.fn (.func 25) #[],args:=#[M] },{ target:=.fn (.func 24) #[M,P],args:=#[] }] (.panicking (pan HF)) w0:=by
 refine OX Z3 (λargs W=>Jd Tryz.func25 Z5 Z5 args W) (by simp: #[M]++(#[]:Array Value)= #[M]) ?_;refine (zz r.hr (H.at 0)).mono ?_;rintro e s w1 ⟨⟨v,rfl⟩,rfl,ρ1,f,k,g⟩;have X:=HD (L:=3) r.fr d f k g;have h:=HD (L:=3) H Z5 f k g;refine OX (by simp [settle]) (λargs W=>Jd Tryz.func24 Z5 Z5 args W) (by simp:(#[]:Array Value)++#[M,P]= #[M,P]) ?_;refine (zNL c f (h.at 0) (h.at 1)).mono ?_;rintro e s w' ⟨⟨v,rfl⟩,rfl,ρ2,Z,j,o⟩;exact nY (a0:=a0) (e:=2) m n D ((O.trans k).trans j) ⟨Z,HD (L:=3) X d Z j o⟩
def zNG (m:AM a (.sl 1 l.length (AO AW l)))(n:AM u (.sl 2 t.length (AO A2 t)))(D:As Tryz.prog GG N [] ρs b)(O:A3 [] ρs b [oC [.i 0],oC [.i fuel],oC (AE q)] ρ0 w0)(d:(AH 39 [(6,a),(7,u),(8,.ref 0 0)]).all (CP 3)=true)(r:AU Tryz.prog GG N ⟨AH 39 [(6,a),(7,u),(8,.ref 0 0)],[oC [.i 0],oC [.i fuel],oC (AE q)]⟩ ρ0 a0 w0)(H:BB (MS N [oC [.i 0],oC [.i fuel],oC (AE q)] ρ0) w0 ρ0 [.ref 0 0,.ref 1 0] #[M,P])(c:decide (fuel>65536)=false):LeavesInM Fence.wide 0 Tryz.prog Tryz.f10 a0.tmps (λB w'=>∃ v,B= .returned v/\ B8 Tryz.prog GG N [] ρs b true (.tup 3 (L1 [.sl 1 l.length (AO AW l),.sl 2 t.length (AO A2 t),.i 220])) [] v w') [{ target:=.fn (.func 25) #[],args:=#[M] },{ target:=.fn (.func 24) #[M,P],args:=#[] }] (.panicking (pan HF)) w0:=by
 refine OX Z3 (λargs W=>Jd Tryz.func25 Z5 Z5 args W) (by simp: #[M]++(#[]:Array Value)= #[M]) ?_;refine (zz r.hr (H.at 0)).mono ?_;rintro e s w1 ⟨⟨v,rfl⟩,rfl,ρ1,f,k,g⟩;have X:=HD (L:=3) r.fr d f k g;have h:=HD (L:=3) H Z5 f k g;refine OX (by simp [settle]) (λargs W=>Jd Tryz.func24 Z5 Z5 args W) (by simp:(#[]:Array Value)++#[M,P]= #[M,P]) ?_;refine (zNK c f (h.at 0) (h.at 1)).mono ?_;rintro e s w' ⟨⟨v,rfl⟩,rfl,ρ2,Z,j,o⟩;exact nY (a0:=a0) (e:=220) m n D ((O.trans k).trans j) ⟨Z,HD (L:=3) X d Z j o⟩
def Oz (fuel:Int):X0 -> List Ξ×List (Δ)×Int
 | none=>([],[],if fuel>65536 then 2 else 220)
 | some r=>(r.1,if r.2.2 then [] else r.2.1,0)
def HE (n:Nat)(q:AA)(pos:Ξ)(fuel:Int):Option (List Ξ×List (Δ)×Int):= (Fd n q pos).bind λe=> bif (e != 0) then some ([],[],e) else bif (decide (fuel<0)) then some ([],[],1) else bif (decide (fuel>16777216)) then some ([],[],1) else (LF n q pos 2 (if 65536<fuel then 65536 else fuel)).map (Oz fuel)
variable {Z:X0}{pos:Ξ}{n:Nat}
def zND (A1:Fd n q pos=some 0)(c1:decide (fuel<0)=false)(c2:decide (fuel>16777216)=false)(w:LF n q pos 2 (if 65536<fuel then 65536 else fuel)=some Z) 
     (f:AU Tryz.prog GG N ⟨AH 39 [(0,.agg 5 (L1 (AE q))),(1,.ints pos),(2,.i fuel)],[]⟩ ρ0 a0 w0) (Fy:a0.defers= []):
 (Ac Tryz.f10).wpIn Fence.wide 0 Tryz.prog (bodyPostM Fence.wide 0 Tryz.prog Tryz.f10 λe w'=>∃ v,e= .returned v/\ B8 Tryz.prog GG N [] ρ0 w0 true (.tup 3 (L1 [.sl 1 (((Oz fuel Z).1).length) (AO AW ((Oz fuel Z).1)),.sl 2 (((Oz fuel Z).2.1).length) (AO A2 ((Oz fuel Z).2.1)),.i (Oz fuel Z).2.2])) [] v w') a0 w0:=by
 refine zLp ?_;refine wr (L:=0) HC.x [1,3,5,6,7,8] [2,1,0] [] H0 H0 (AH 39 [(1,.ints pos),(3,.ref 2 0),(5,.ref 1 0),(6,.nils),(7,.nils),(8,.ref 0 0)]) ([oC [.i 0],oC [.i fuel],oC (AE q)]:DH) f Z5 Z5 λρ1 a1 w1 R1 By GQ Dd=>?_
 refine zLp (zLp ?_);refine wr (L:=0) HC.x [1,3,5,6,7,8,9] [0,1,2] [] ((H0.c (fb (MY A1) [oC [.i 0],oC [.i fuel],oC (AE q)]))) H0 (AH 39 [(1,.ints pos),(3,.ref 2 0),(5,.ref 1 0),(6,.nils),(7,.nils),(8,.ref 0 0),(9,.i 0)]) ([oC [.i 0],oC [.i fuel],oC (AE q)]:DH) R1 Z5 Z5 λρ2 a2 w2 R2 E4 JX Mn=>?_
 refine zLp ?_;refine wr (L:=0) HC.x [1,3,5,6,7,8,9,17] [0,1,2] [] H0 H0 (AH 39 [(1,.ints pos),(3,.ref 2 0),(5,.ref 1 0),(6,.nils),(7,.nils),(8,.ref 0 0),(9,.i 0),(17,.bool false)]) ([oC [.i 0],oC [.i fuel],oC (AE q)]:DH) R2 Z5 Z5 λρ3 a3 w3 z FF mi TQ=>?_
 refine zMe (BV z (.tmp 17)) (zQB ?_);refine zLp (zLp ?_);refine wr (L:=0) HC.x [1,3,5,6,7,8,24] [0,1,2] [] ((H0.b 20 c1 |>.b 23 c2)) H0 (AH 39 [(1,.ints pos),(3,.ref 2 0),(5,.ref 1 0),(6,.nils),(7,.nils),(8,.ref 0 0),(24,.bool false)]) ([oC [.i 0],oC [.i fuel],oC (AE q)]:DH) z Z5 Z5 λρ4 a4 R d k Kb kp4=>?_
 refine zMe (BV d (.tmp 24)) (zQB ?_);have d:AU Tryz.prog GG N ⟨AH 39 [(1,.ints pos),(3,.ref 2 0),(5,.ref 1 0),(6,.nils),(7,.nils),(8,.ref 0 0)],[oC [.i 0],oC [.i fuel],oC (AE q)]⟩ ρ4 a4 R:=d.forg [1,3,5,6,7,8] rfl Z5;have BR:a4.tmps.size=39:=by simpa [AH] using d.fr.1.symm
 refine zLp (zBL (o0:=_) (o1:=_) rfl rfl rfl rfl rfl rfl rfl (by rw [BR];decide) λa5 A D=>?_);have C:=d.idle 25 A Z5;refine zLp (ph (o0:=_) rfl rfl rfl rfl λE lY h=>?_);have Q:AU Tryz.prog GG N ⟨AH 39 [(1,.ints pos),(3,.ref 2 0),(5,.ref 1 0),(6,.nils),(7,.nils),(8,.ref 0 0)],[oC [.i 0],oC [.i fuel],oC (AE q)]⟩ ρ4 E R:=⟨C.hr,by rw [lY];exact C.fr⟩;obtain ⟨M,Y⟩: ∃ x,x=a4.eval (.tmp 8):=⟨_,rfl⟩;obtain ⟨P,U⟩: ∃ x,x=a4.eval (.tmp 5):=⟨_,rfl⟩;have F:a5.eval (.tmp 8)=M:=by rw [Y];simp [Act.eval,A]
 have h:E.defers= [{ target:=.fn (.func 25) #[],args:=#[M] },{ target:=.fn (.func 24) #[M,P],args:=#[] }]:=by rw [h,D,Kb,mi,JX,GQ,Fy,F,Y,U];simp
 have V:BB (MS N [oC [.i 0],oC [.i fuel],oC (AE q)] ρ4) R ρ4 [.ref 0 0,.ref 1 0] #[M,P]:=⟨rfl,λj o=>match j,o with | 0,_=>(by show AI _ _ _ _ M;rw [Y];exact d.fr.at 8) | 1,_=>(by show AI _ _ _ _ P;rw [U];exact d.fr.at 5) | j+2,o=>absurd o Z3⟩;have k:=(((By.trans E4).trans FF).trans k);refine zLp ?_;cases Z with
 | none=>
  refine pP (dst:=some 31) (sY w) [0,1,2,3] [5,6,7,8,9,10,11] 4 H0 (AH 39 [(6,.nils),(7,.nils),(8,.ref 0 0)]) [oC [.i 0],oC [.i fuel],oC (AE q)] Q Z5 Z5 Z5 Z5 λρ7 S W K a I T=>?_
  have O:=HD (L:=3) V Z5 K.hr a T
  show LeavesInM _ _ _ _ _ _ S.defers (.panicking (pan HF)) W
  rw [I,h];cases c:decide (fuel>65536) with
  | true=>
   show LeavesInM Fence.wide 0 Tryz.prog Tryz.f10 S.tmps (λB w'=>∃ v,B= .returned v/\ B8 Tryz.prog GG N [] ρ0 w0 true (.tup 3 (L1 [.sl 1 (([]:List Ξ).length) (AO AW ([]:List Ξ)),.sl 2 (([]:List (Δ)).length) (AO A2 ([]:List (Δ))),.i (if fuel>65536 then (2:Int) else 220)])) [] v w') _ _ _
   rw [show (if fuel>65536 then (2:Int) else 220)=2 from zAE (zNS c)];exact zNH (l:=[]) (t:=[]) (AM.sl_nil _ _) (AM.sl_nil _ _) f.hr (k.trans a) Z5 K O c
  | false=>
   show LeavesInM Fence.wide 0 Tryz.prog Tryz.f10 S.tmps (λB w'=>∃ v,B= .returned v/\ B8 Tryz.prog GG N [] ρ0 w0 true (.tup 3 (L1 [.sl 1 (([]:List Ξ).length) (AO AW ([]:List Ξ)),.sl 2 (([]:List (Δ)).length) (AO A2 ([]:List (Δ))),.i (if fuel>65536 then (2:Int) else 220)])) [] v w') _ _ _
   rw [show (if fuel>65536 then (2:Int) else 220)=220 from zEO (of_decide_eq_false c)];exact zNG (l:=[]) (t:=[]) (AM.sl_nil _ _) (AM.sl_nil _ _) f.hr (k.trans a) Z5 K O c
 | some r=>
  refine wr (L:=3) HC.x [6,7,8,10,11,12] [0,1,2] [] ((H0.c (fb (sZ w) [oC [.i 0],oC [.i fuel],oC (AE q)]))) H0 (AH 39 [(6,.nils),(7,.nils),(8,.ref 0 0),(10,.sl 1 r.1.length (AO AW r.1)),(11,.sl 2 r.2.1.length (AO A2 r.2.1)),(12,.bool r.2.2)]) ([oC [.i 0],oC [.i fuel],oC (AE q)]:DH) Q Z5 Z5 λρ7 S W K a I T=>?_
  have O:=HD (L:=3) V Z5 K.hr a T;have a:=k.trans a;have I:=I.trans h;refine zLp (zLp ?_);refine wr (L:=3) HC.x [6,7,8,10,11,35] [0,1,2] [] H0 H0 (AH 39 [(6,.nils),(7,.nils),(8,.ref 0 0),(10,.sl 1 r.1.length (AO AW r.1)),(11,.sl 2 r.2.1.length (AO A2 r.2.1)),(35,.bool r.2.2)]) ([oC [.i 0],oC [.i fuel],oC (AE q)]:DH) K Z5 Z5 λρ8 X w8 J p m cg=>?_
  have F8:=HD (L:=3) O Z5 J.hr p cg;have m:=m.trans I;cases c:r.2.2 with
  | true=>
   refine wpIn_cond_true ((show X.eval (.tmp 35)= .bool r.2.2 from BV J (.tmp 35)).trans (by rw [c])) ?_;refine zLp ?_;refine wr (L:=3) HC.x [6,7,8] [0,1,2] [] ((H0.t)) H0 (AH 39 [(6,.sl 1 r.1.length (AO AW r.1)),(7,.nils),(8,.ref 0 0)]) ([oC [.i 0],oC [.i fuel],oC (AE q)]:DH) J Z5 Z5 λρ9 a9 G g y H s=>?_
   have u:=HD (L:=3) F8 Z5 g.hr y s;refine zQE ?_
   show LeavesInM _ _ _ _ _ _ a9.defers .returning G
   rw [H,m];have e:Oz fuel (some r)=(r.1,([]:List (Δ)),0):=by show (r.1,(if r.2.2=true then [] else r.2.1),(0:Int))=_;rw [c];rfl
   rw [e];exact yr (l:=r.1) (t:=([]:List (Δ))) (AM.of_eq Z5) (AM.sl_nil _ _) f.hr ((a.trans p).trans y) Z5 g u
  | false=>
   refine zMe ((show X.eval (.tmp 35)= .bool r.2.2 from BV J (.tmp 35)).trans (by rw [c])) ?_;refine zQB (zLp ?_);refine wr (L:=3) HC.x [6,7,8] [0,1,2] [] ((H0.t)) H0 (AH 39 [(6,.sl 1 r.1.length (AO AW r.1)),(7,.sl 2 r.2.1.length (AO A2 r.2.1)),(8,.ref 0 0)]) ([oC [.i 0],oC [.i fuel],oC (AE q)]:DH) J Z5 Z5 λρ9 a9 G g y H s=>?_
   have u:=HD (L:=3) F8 Z5 g.hr y s;refine zQE ?_
   show LeavesInM _ _ _ _ _ _ a9.defers .returning G
   rw [H,m];have e:Oz fuel (some r)=(r.1,r.2.1,0):=by show (r.1,(if r.2.2=true then [] else r.2.1),(0:Int))=_;rw [c];rfl
   rw [e];exact yr (l:=r.1) (t:=r.2.1) (AM.of_eq Z5) (AM.of_eq Z5) f.hr ((a.trans p).trans y) Z5 g u
def Xl (n:Nat)(q:AA)(pos:Ξ)(fuel:Int):Option ((List Ξ)×(List (Δ))×Int):= (Fd n q pos).bind λe=> bif (e != 0) then some (([]:List Ξ),([]:List (Δ)),e) else bif (decide (fuel<0)) then some (([]:List Ξ),([]:List (Δ)),1) else bif (decide (fuel>16777216)) then some (([]:List Ξ),([]:List (Δ)),1) else none
def Xm (n:Nat)(q:AA)(pos:Ξ)(fuel:Int):Option ((List Ξ)×(List (Δ))×Int):=Xl n q pos fuel
def nZ {r:(List Ξ)×(List (Δ))×Int}(h:Xm n q pos fuel=some r):EQ 10 [.agg 5 (L1 (AE q)),.ints pos,.i fuel] [] (.tup 3 (L1 [.sl 1 r.1.length (AO AW r.1),.sl 2 r.2.1.length (AO A2 r.2.1),.i r.2.2])) [] true:=by
 unfold Xm Xl at h;refine ot Tryz.func10 λB N=>?_
 revert r;apply gO;exact cf MY [oC (AE q),oC [.i fuel],oC [.i 0]] λe=>bi 17 (jt (lF λp=>el AD [6,7,8] [2] p [] H0 [.nils,.nils,.i e] (AM.tupL (l:=[.nils,.nils,.i e]) (l':=[.sl 1 (([]:List Ξ).length) (AO AW ([]:List Ξ)),.sl 2 (([]:List (Δ)).length) (AO A2 ([]:List (Δ))),.i e]) rfl ⟨(AM.sl_nil _ _),(AM.sl_nil _ _),Ar,trivial⟩))) (bi 20 (jt (lF λp=>el AD [6,7,8] [2] p [] H0 [.nils,.nils,.i 1] (AM.tupL (l:=[.nils,.nils,.i 1]) (l':=[.sl 1 (([]:List Ξ).length) (AO AW ([]:List Ξ)),.sl 2 (([]:List (Δ)).length) (AO A2 ([]:List (Δ))),.i 1]) rfl ⟨(AM.sl_nil _ _),(AM.sl_nil _ _),Ar,trivial⟩))) (bi 23 (jt (lF λp=>el AD [6,7,8] [2] p [] H0 [.nils,.nils,.i 1] (AM.tupL (l:=[.nils,.nils,.i 1]) (l':=[.sl 1 (([]:List Ξ).length) (AO AW ([]:List Ξ)),.sl 2 (([]:List (Δ)).length) (AO A2 ([]:List (Δ))),.i 1]) rfl ⟨(AM.sl_nil _ _),(AM.sl_nil _ _),Ar,trivial⟩))) nO))
def Q9 {r:List Ξ×List (Δ)×Int}(h:HE n q pos fuel=some r):EQ 10 [.agg 5 (L1 (AE q)),.ints pos,.i fuel] [] (.tup 3 (L1 [.sl 1 r.1.length (AO AW r.1),.sl 2 r.2.1.length (AO A2 r.2.1),.i r.2.2])) [] true:=by
 unfold HE at h;obtain ⟨d,a,h⟩:=Gq h;rcases DN h with ⟨W,h⟩ | ⟨W,h⟩
 ·refine nZ (n:=n) ?_;unfold Xm Xl;rw [a,zAB,W,zAG];exact h
 rcases DN h with ⟨b,h⟩ | ⟨b,h⟩
 ·refine nZ (n:=n) ?_;unfold Xm Xl;rw [a,zAB,W,zAz,b,zAG];exact h
 rcases DN h with ⟨j,h⟩ | ⟨j,h⟩
 ·refine nZ (n:=n) ?_;unfold Xm Xl;rw [a,zAB,W,zAz,b,zAz,j,zAG];exact h
 obtain ⟨out,f,rfl⟩:=zLX.1 h;have g:d=0:=by simpa using W
 subst g;have m:(Tryz.f10.name== "runtime.NumGoroutine")=false:=Z5
 refine ⟨⟨Tryz.f10,Tryz.func10,by simpa using m,Z5⟩,λN ρ w args HR F=>(zPy (n:=0)).1 (callsIn_of_wp_marks (c:=Ac Tryz.f10) Tryz.func10 Z5 trivial ?_)⟩;refine zND a b j f (N:=N) (ρ0:=ρ) ⟨HR,?_⟩ rfl;have G:([.agg 5 (L1 (AE q)),.ints pos,.i fuel]:List DV).length=args.size:=F.1;have e:([.agg 5 (L1 (AE q)),.ints pos,.i fuel]:List DV)++List.replicate (Tryz.f10.ntmps-([.agg 5 (L1 (AE q)),.ints pos,.i fuel]:List DV).length) .any=AH 39 [(0,.agg 5 (L1 (AE q))),(1,.ints pos),(2,.i fuel)]:=Z5
 rw [←e,G];exact BB.append F (BB.anys _ _ _ _)
variable {m:Int}
def wJ (r:AM W (.i m)){a:World}(D:As Tryz.prog GG N [] ρs a)(O:A3 [] ρs a [oC [.i e],oC (AE q)] ρ0 w0)(b:AU Tryz.prog GG N ⟨AH 45 [(8,W),(9,.ref 0 0)],[oC [.i e],oC (AE q)]⟩ ρ0 a0 w0):LeavesInM Fence.wide 0 Tryz.prog Tryz.f16 a0.tmps (λB w'=>∃ v,B= .returned v/\ B8 Tryz.prog GG N [] ρs a true (.tup 2 (L1 [.i m,.i e])) [] v w') [] .returning w0:=by
 obtain ⟨v,c,d⟩:=Xn (fn:=Tryz.f16) b D O [] H0 [W,.i e] (AM.tupL (l:=[W,.i e]) (l':=[.i m,.i e]) rfl ⟨r,Ar,trivial⟩) Z5 Z5;exact ⟨v,c,v,rfl,d⟩
def zIX (r:AM a (.i m))(D:As Tryz.prog GG N [] ρs b)(O:A3 [] ρs b [oC [.i 0],oC (AE q)] ρ0 w0)(CD:(AH 45 [(8,a),(9,.ref 0 0)]).all (CP 2)=true)(c:AU Tryz.prog GG N ⟨AH 45 [(8,a),(9,.ref 0 0)],[oC [.i 0],oC (AE q)]⟩ ρ0 a0 w0)(F0:BB (MS N [oC [.i 0],oC (AE q)] ρ0) w0 ρ0 [.ref 0 0] #[M]):LeavesInM Fence.wide 0 Tryz.prog Tryz.f16 a0.tmps (λB w'=>∃ v,B= .returned v/\ B8 Tryz.prog GG N [] ρs b true (.tup 2 (L1 [.i m,.i 0])) [] v w') [{ target:=.fn (.func 25) #[],args:=#[M] }] .returning w0:=by
 refine OX Z3 (λargs W=>Jd Tryz.func25 Z5 Z5 args W) (by simp: #[M]++(#[]:Array Value)= #[M]) ?_;refine (zy M w0).mono ?_;rintro e u' w1 ⟨⟨v,rfl⟩,rfl,rfl⟩;exact wJ (a0:=a0) (e:=0) r D O c
def zIY (c:AM a (.i m))(D:As Tryz.prog GG N [] ρs b)(O:A3 [] ρs b [oC [.i 0],oC (AE q)] ρ0 w0)(u:(AH 45 [(8,a),(9,.ref 0 0)]).all (CP 2)=true)(r:AU Tryz.prog GG N ⟨AH 45 [(8,a),(9,.ref 0 0)],[oC [.i 0],oC (AE q)]⟩ ρ0 a0 w0)(H:BB (MS N [oC [.i 0],oC (AE q)] ρ0) w0 ρ0 [.ref 0 0] #[M]):LeavesInM Fence.wide 0 Tryz.prog Tryz.f16 a0.tmps (λB w'=>∃ v,B= .returned v/\ B8 Tryz.prog GG N [] ρs b true (.tup 2 (L1 [.i m,.i 220])) [] v w') [{ target:=.fn (.func 25) #[],args:=#[M] }] (.panicking (pan HF)) w0:=by
 refine OX Z3 (λargs W=>Jd Tryz.func25 Z5 Z5 args W) (by simp: #[M]++(#[]:Array Value)= #[M]) ?_;refine (zOc r.hr (H.at 0)).mono ?_;rintro e u' w1 ⟨⟨v,rfl⟩,rfl,ρ1,f,k,d⟩;have X:=HD (L:=2) r.fr u f k d;exact wJ (a0:=a0) (e:=220) c D (O.trans k) ⟨f,X⟩
def kP:X0 -> Δ
 | none=>(0,220)
 | some r=>((r.1.length:Int),0)
def JK (n:Nat)(q:AA)(pos:Ξ)(most fuel:Int):Option Δ:= (Fd n q pos).bind λe=> bif (e != 0) then some (0,e) else bif (decide (most<1)) then some (0,1) else bif (decide (most>65536)) then some (0,1) else bif (decide (fuel<0)) then some (0,1) else bif (decide (fuel>16777216)) then some (0,1) else (LF n q pos most fuel).map kP
variable {most:Int}
def zIU (y:Fd n q pos=some 0)(E:decide (most<1)=false)(z:decide (most>65536)=false)(A:decide (fuel<0)=false)(B:decide (fuel>16777216)=false)(l:LF n q pos most fuel=some Z) 
     (g:AU Tryz.prog GG N ⟨AH 45 [(0,.agg 5 (L1 (AE q))),(1,.ints pos),(2,.i most),(3,.i fuel)],[]⟩ ρ0 a0 w0) (C:a0.defers= []):
 (Ac Tryz.f16).wpIn Fence.wide 0 Tryz.prog (bodyPostM Fence.wide 0 Tryz.prog Tryz.f16 λe w'=>∃ v,e= .returned v/\ B8 Tryz.prog GG N [] ρ0 w0 true (.tup 2 (L1 [.i (kP Z).1,.i (kP Z).2])) [] v w') a0 w0:=by
 refine zLp ?_;refine wr (L:=0) HC.x [1,2,3,4,8,9] [1,0] [] H0 H0 (AH 45 [(1,.ints pos),(2,.i most),(3,.i fuel),(4,.ref 1 0),(8,.i 0),(9,.ref 0 0)]) ([oC [.i 0],oC (AE q)]:DH) g Z5 Z5 λρ1 a1 w1 D F G Dd=>?_
 refine zLp (zLp ?_);refine wr (L:=0) HC.x [1,2,3,4,8,9,10] [0,1] [] ((H0.c (fb (MY y) [oC [.i 0],oC (AE q)]))) H0 (AH 45 [(1,.ints pos),(2,.i most),(3,.i fuel),(4,.ref 1 0),(8,.i 0),(9,.ref 0 0),(10,.i 0)]) ([oC [.i 0],oC (AE q)]:DH) D Z5 Z5 λρ2 a2 w2 P Q U Mn=>?_
 refine zLp ?_;refine wr (L:=0) HC.x [1,2,3,4,8,9,10,18] [0,1] [] H0 H0 (AH 45 [(1,.ints pos),(2,.i most),(3,.i fuel),(4,.ref 1 0),(8,.i 0),(9,.ref 0 0),(10,.i 0),(18,.bool false)]) ([oC [.i 0],oC (AE q)]:DH) P Z5 Z5 λρ3 a3 w3 H V W TQ=>?_
 refine zMe (BV H (.tmp 18)) (zQB ?_);refine zLp (zLp ?_);refine wr (L:=0) HC.x [1,2,3,4,8,9,33] [0,1] [] ((H0.b 21 E |>.b 24 z |>.b 28 A |>.b 32 B)) H0 (AH 45 [(1,.ints pos),(2,.i most),(3,.i fuel),(4,.ref 1 0),(8,.i 0),(9,.ref 0 0),(33,.bool false)]) ([oC [.i 0],oC (AE q)]:DH) H Z5 Z5 λρ4 a4 R d k X kp4=>?_
 refine zMe (BV d (.tmp 33)) (zQB ?_);have d:AU Tryz.prog GG N ⟨AH 45 [(1,.ints pos),(2,.i most),(3,.i fuel),(4,.ref 1 0),(8,.i 0),(9,.ref 0 0)],[oC [.i 0],oC (AE q)]⟩ ρ4 a4 R:=d.forg [1,2,3,4,8,9] rfl Z5;refine zLp (ph (o0:=_) rfl rfl rfl rfl λu lY f=>?_);have o:AU Tryz.prog GG N ⟨AH 45 [(1,.ints pos),(2,.i most),(3,.i fuel),(4,.ref 1 0),(8,.i 0),(9,.ref 0 0)],[oC [.i 0],oC (AE q)]⟩ ρ4 u R:=⟨d.hr,by rw [lY];exact d.fr⟩;obtain ⟨M,Y⟩: ∃ x,x=a4.eval (.tmp 9):=⟨_,rfl⟩;have f:u.defers= [{ target:=.fn (.func 25) #[],args:=#[M] }]:=by rw [f,X,W,U,G,C,Y]
 have w:BB (MS N [oC [.i 0],oC (AE q)] ρ4) R ρ4 [.ref 0 0] #[M]:=⟨rfl,λj h=>match j,h with | 0,_=>(by show AI _ _ _ _ M;rw [Y];exact d.fr.at 9) | j+1,h=>absurd h Z3⟩;have k:=(((F.trans Q).trans V).trans k);refine zLp ?_;cases Z with
 | none=>
  refine pP (dst:=some 39) (sY l) [0,1,2,3] [5,6,7,8,9,10,11] 4 H0 (AH 45 [(8,.i 0),(9,.ref 0 0)]) [oC [.i 0],oC (AE q)] o Z5 Z5 Z5 Z5 λρ7 S p K a I T=>?_
  have O:=HD (L:=2) w Z5 K.hr a T
  show LeavesInM _ _ _ _ _ _ S.defers (.panicking (pan HF)) p
  rw [I,f];exact zIY (m:=0) Ar g.hr (k.trans a) Z5 K O
 | some r=>
  refine wr (L:=2) HC.x [8,9,11] [0,1] [] ((H0.c (fb (sZ l) [oC [.i 0],oC (AE q)]))) H0 (AH 45 [(8,.i 0),(9,.ref 0 0),(11,.sl 1 r.1.length (AO AW r.1))]) ([oC [.i 0],oC (AE q)]:DH) o Z5 Z5 λρ7 S p K a I T=>?_
  have O:=HD (L:=2) w Z5 K.hr a T;have a:=k.trans a;have I:=I.trans f;refine zLp ?_;refine wr (L:=2) HC.x [8,9] [0,1] [] ((H0.t)) H0 (AH 45 [(8,.i (r.1.length:Int)),(9,.ref 0 0)]) ([oC [.i 0],oC (AE q)]:DH) K Z5 Z5 λρ8 a8 w8 J s Tx cg=>?_
  have F8:=HD (L:=2) O Z5 J.hr s cg;refine zQE ?_
  show LeavesInM _ _ _ _ _ _ a8.defers .returning w8
  rw [Tx,I];exact zIX (m:=(r.1.length:Int)) Ar g.hr (a.trans s) Z5 J F8
def QQ (n:Nat)(q:AA)(pos:Ξ)(most fuel:Int):Option Δ:= (Fd n q pos).bind λe=> bif (e != 0) then some (0,e) else bif (decide (most<1)) then some (0,1) else bif (decide (most>65536)) then some (0,1) else bif (decide (fuel<0)) then some (0,1) else bif (decide (fuel>16777216)) then some (0,1) else none
def QR (n:Nat)(q:AA)(pos:Ξ)(most fuel:Int):Option Δ:=QQ n q pos most fuel
variable {r:Δ}
def Wa (h:QR n q pos most fuel=some r):EQ 16 [.agg 5 (L1 (AE q)),.ints pos,.i most,.i fuel] [] (.tup 2 (L1 [.i r.1,.i r.2])) [] true:=by
 unfold QR QQ at h;refine ot Tryz.func16 λB N=>?_
 revert r;apply gO;exact cf MY [oC (AE q),oC [.i 0]] λ_=>bi 18 (jt (lE AD [8,9] [1])) (bi 21 (jt (lE AD [8,9] [1])) (bi 24 (jt (lE AD [8,9] [1])) (bi 28 (jt (lE AD [8,9] [1])) (bi 32 (jt (lE AD [8,9] [1])) nO))))
def Mi (h:JK n q pos most fuel=some r):EQ 16 [.agg 5 (L1 (AE q)),.ints pos,.i most,.i fuel] [] (.tup 2 (L1 [.i r.1,.i r.2])) [] true:=by
 unfold JK at h;obtain ⟨d,a,h⟩:=Gq h;rcases DN h with ⟨W,h⟩ | ⟨W,h⟩
 ·refine Wa (n:=n) ?_;unfold QR QQ;rw [a,zAB,W,zAG];exact h
 rcases DN h with ⟨b,h⟩ | ⟨b,h⟩
 ·refine Wa (n:=n) ?_;unfold QR QQ;rw [a,zAB,W,zAz,b,zAG];exact h
 rcases DN h with ⟨j,h⟩ | ⟨j,h⟩
 ·refine Wa (n:=n) ?_;unfold QR QQ;rw [a,zAB,W,zAz,b,zAz,j,zAG];exact h
 rcases DN h with ⟨u,h⟩ | ⟨u,h⟩
 ·refine Wa (n:=n) ?_;unfold QR QQ;rw [a,zAB,W,zAz,b,zAz,j,zAz,u,zAG];exact h
 rcases DN h with ⟨K,h⟩ | ⟨K,h⟩
 ·refine Wa (n:=n) ?_;unfold QR QQ;rw [a,zAB,W,zAz,b,zAz,j,zAz,u,zAz,K,zAG];exact h
 obtain ⟨out,f,rfl⟩:=zLX.1 h;have g:d=0:=by simpa using W
 subst g;have m:(Tryz.f16.name== "runtime.NumGoroutine")=false:=Z5
 refine ⟨⟨Tryz.f16,Tryz.func16,by simpa using m,Z5⟩,λN ρ w args HR F=>(zPy (n:=0)).1 (callsIn_of_wp_marks (c:=Ac Tryz.f16) Tryz.func16 Z5 trivial ?_)⟩;refine zIU a b j u K f (N:=N) (ρ0:=ρ) ⟨HR,?_⟩ rfl;have G:([.agg 5 (L1 (AE q)),.ints pos,.i most,.i fuel]:List DV).length=args.size:=F.1;have e:([.agg 5 (L1 (AE q)),.ints pos,.i most,.i fuel]:List DV)++List.replicate (Tryz.f16.ntmps-([.agg 5 (L1 (AE q)),.ints pos,.i most,.i fuel]:List DV).length) .any=AH 45 [(0,.agg 5 (L1 (AE q))),(1,.ints pos),(2,.i most),(3,.i fuel)]:=Z5
 rw [←e,G];exact BB.append F (BB.anys _ _ _ _)
end
abbrev HR:=List Ξ×List (Δ)×Bool
def B1 (most:Int):List BP -> List Ξ -> List (Δ) -> HR
 | [],gs,t=>(gs,t,false)
 | x::l,gs,t=>if x.1.1=4 then (if ((gs++[x.2]).length:Int)=most then (gs++[x.2],t++[x.1],true) else B1 most l (gs++[x.2]) (t++[x.1])) else B1 most l gs (t++[x.1])
def hst (fuel:Int)(f:Nat)(gs:List Ξ)(t:List (Δ)):HU:=if gs= [] then (if t= [] then .s0 else .s1 (f:Int) t.length t) else .s2 (f:Int) gs.length t.length false gs t
theorem dL {most:Int}: ∀ (l:List BP) (gs:List Ξ) (t:List (Δ)),t.length<=(B1 most l gs t).2.1.length/\ (l≠[] -> t.length<(B1 most l gs t).2.1.length)
 | [],gs,t=>⟨zBT _,λh=>absurd rfl h⟩
 | x::l,gs,t=>by
  have h1:=(dL (most:=most) l (gs++[x.2]) (t++[x.1])).1;have h2:=(dL (most:=most) l gs (t++[x.1])).1
  grind [B1]
theorem lS {most:Int}: ∀ (l:List BP) (gs:List Ξ) (t:List (Δ)),(B1 most l gs t).2.2=true -> ((B1 most l gs t).1.length:Int)=most
 | [],gs,t,h=>by cases h
 | x::l,gs,t,h=>by
  unfold B1 at h ⊢;split at h
  ·rename_i A;rw [zAE A];split at h
   ·grind
   ·rename_i a;rw [zEO a];exact lS l _ _ h
  ·rename_i A;rw [zEO A];exact lS l _ _ h
section
variable {n:Nat} {most fuel:Int} {f:Nat} {gs:List Ξ} {t:List (Δ)} {x:BP}
def stp (fuel most:Int)(x:BP)(gs:List Ξ)(t:List (Δ)):Nat -> HU×Nat
 | 0=>(hst fuel 0 gs t,2)
 | f+1=>if x.1.1=4 then (if ((gs++[x.2]).length:Int)=most then (.s2 (f:Int) (gs++[x.2]).length (t++[x.1]).length true (gs++[x.2]) (t++[x.1]),1) else (hst fuel f (gs++[x.2]) (t++[x.1]),0)) else (hst fuel f gs (t++[x.1]),0)
def qx:stp fuel most x gs t (f+1)=if x.1.1=4 then (if ((gs++[x.2]).length:Int)=most then (.s2 (f:Int) (gs++[x.2]).length (t++[x.1]).length true (gs++[x.2]) (t++[x.1]),1) else (hst fuel f (gs++[x.2]) (t++[x.1]),0)) else (hst fuel f gs (t++[x.1]),0):=rfl
theorem zEu:JB n most fuel x .s0=iq n most fuel x:=rfl
variable {b:Nat}{a:Int}
theorem zEt {c:List (Δ)}:JB n most fuel x (.s1 a b c)=ip n most fuel x a b c:=rfl
theorem zEs {c:Nat}{d:Bool}{u:List Ξ}{v:List (Δ)}:JB n most fuel x (.s2 a b c d u v)=io n most fuel x a b c d u v:=rfl
theorem xJ:hst fuel f [] []= .s0:=rfl
theorem lf (h:t≠[]):hst fuel f [] t= .s1 (f:Int) t.length t:=by simp_all [hst]
theorem ld (h:gs≠[]):hst fuel f gs t= .s2 (f:Int) gs.length t.length false gs t:=by unfold hst;rw [zEO h]
theorem zEh (hf:f<=16777216)(ht:t.length<=16777216)(hg:gs.length<=t.length)(h0:t= [] -> (f:Int)=fuel):JB n most fuel x (hst fuel f gs t)=some (stp fuel most x gs t f):=by
 have L:(1000000000000:Nat)=Av:=rfl;have i:t++[x.1]≠[]:=Z3
 have a:gs++[x.2]≠[]:=Z3
 cases f with
 | zero=>
  show _=some (hst fuel 0 gs t,2)
  by_cases Q:gs= []
  ·subst Q
   by_cases q:t= []
   ·subst q;have b:=h0 rfl;subst b;rfl
   ·rw [lf q];rfl
  ·rw [ld Q];rfl
 | succ f=>
  have r1:AG (((f+1:Nat):Int)-1):=Aa.2 ⟨Z2,Z2⟩;have r2:((f+1:Nat):Int)-1=(f:Int):=Z2
  have b1:(((f+1:Nat):Int)==0)=false:=zJ8.2 Z2;rw [qx,ld (f:=f) a]
  by_cases Q:gs= []
  ·subst Q;rw [lf (f:=f) i]
   by_cases q:t= []
   ·subst q;have b:=h0 rfl
    grind [xJ,zEu,iq]
   grind [lf,zEt,ip]
  grind [ld,zEs,io]
theorem se: ∀ (l:List BP) {f:Nat} {gs:List Ξ} {t:List (Δ)},f<=16777216 -> t.length+f<=16777216 -> gs.length<=t.length -> (t= [] -> (f:Int)=fuel) ->
 (CY (JB n most fuel) l (hst fuel f gs t)).bind No=some (if (B1 most l gs t).2.1.length<=t.length+f then some (B1 most l gs t) else none)
 | [],f,gs,t,O,M,a,h0=>by
  show No (hst fuel f gs t,0)=_
  rw [show B1 most [] gs t=(gs,t,false) from rfl,zAE Z3]
  grind [hst,No,im]
 | x::l,f,gs,t,O,M,a,h0=>by
  have hl:=dL (most:=most) (x::l) gs t;rw [show CY (JB n most fuel) (x::l) (hst fuel f gs t)=(JB n most fuel x (hst fuel f gs t)).bind λr=>bif r.2==0 then CY (JB n most fuel) l r.1 else some r from rfl,zEh O Z2 a h0,zAB];cases f with
  | zero=>
   simp_all [stp,No]
  | succ f=>
   have b:=λ(q:List Ξ) (hg':q.length<=t.length+1)=>se l (f:=f) (gs:=q) (t:=t++[x.1]) Z2 Z4 Z4 λh=>by simp at h
   have e:(t++[x.1]).length+f=t.length+(f+1):=Z4
   rw [e] at b;rw [qx]
   by_cases A:x.1.1=4
   ·rw [zAE A]
    grind [B1,No,im]
   ·rw [zEO A];have eh:B1 most (x::l) gs t=B1 most l gs (t++[x.1]):=by rw [B1,zEO A]
    grind
def KF (most:Int)(l:List BP)(f:Nat):Option HR:=if (B1 most l [] []).2.1.length<=f then some (B1 most l [] []) else none
theorem sf {q:AA}{p:Ξ}{l:List BP}(h:Ev (λn=>OQ n q p) l){f:Nat}(O:f<=16777216):Ev (λn=>LF n q p most (f:Int)) (KF most l f):=by
 obtain ⟨N,hN⟩:=h;refine ⟨N,λn hn=>?_⟩
 show (OQ n q p).bind _=_
 have:=se (n:=n) (most:=most) (fuel:=(f:Int)) l (f:=f) (gs:=[]) (t:=[]) O (by simpa using O) Z3 (λ_=>rfl)
 grind [xJ,KF]
variable {l:List BP}{p:Ξ}{q:AA}
def zNE (a:A4 q p)(h:Ev (λn=>OQ n q p) l){f:Nat}(hf:f<=65536):Ev (λn=>HE n q p (f:Int)) (match KF 2 l f with | none=>([],[],220) | some r=>(r.1,if r.2.2 then [] else r.2.1,0)):=by
 obtain ⟨M,Y⟩:=QA a.fit (zA4 a.len256.2 Z6);obtain ⟨N,W⟩:=sf (most:=2) h (f:=f) Z2;rw [a.check] at Y;refine ⟨max M N,λn hn=>?_⟩
 show (Fd n q p).bind _=_
 rw [show Fd n q p=some 0 from Y n Z2,zAB];rw [zAF Z2,zAz,zAF Z2,zAz,zEO Z2,show LF n q p 2 (f:Int)=_ from W n Z2];cases KF 2 l f with
 | none=>show some ([],[],if (f:Int)>65536 then (2:Int) else 220)=_;rw [zEO Z2]
 | some r=>rfl
def zIV (a:A4 q p)(h:Ev (λn=>OQ n q p) l)(hm:1<=most/\ most<=65536){f:Nat}(O:f<=16777216):Ev (λn=>JK n q p most (f:Int)) (match KF most l f with | none=>(0,220) | some r=>((r.1.length:Int),0)):=by
 obtain ⟨M,Y⟩:=QA a.fit (zA4 a.len256.2 Z6);obtain ⟨N,W⟩:=sf (most:=most) h (f:=f) O;rw [a.check] at Y;refine ⟨max M N,λn hn=>?_⟩
 show (Fd n q p).bind _=_
 rw [show Fd n q p=some 0 from Y n Z2,zAB];rw [zAF Z2,zAz,zAF Z2,zAz,zAF Z2,zAz,zAF Z2,zAz,show LF n q p most (f:Int)=_ from W n Z2];cases KF most l f with
 | none=>rfl
 | some r=>rfl
end
section
variable {q:AA} {i:Int} {g pos x:Ξ}
end
section
variable {q:AA} {pos p g:Ξ}
end
section
variable {q:AA} {p x g o:Ξ}
def g9 (x:Int):Nat:=(B4 x 0).length
end
section
set_option maxRecDepth 100000
set_option maxHeartbeats 40000000
def zDK:Ae (A0 Tryz.f12 6) [([0,1,2,3,4,5,6,7],8)] [9] []:=Z0
def VQ:BF:=λi=>match i with
 | 6=>.ord [([0,1,2,3,4,5,6,7],8)] [9] []
 | _=>.no
inductive Zr where
 | l1 (x5:Int)
def Zq (n:Nat)(self:Zr -> W9)(a b:List Ξ)(l:Int):W9:= bif (decide (l<(a.length:Int))) then if (0<=l/\ l<(a.length:Int))/\ (0<=l/\ l<(b.length:Int)) then (same n (a.getD l.toNat []) (b.getD l.toNat [])).bind λe=> bif (!e) then some false else if AG (l+1) then self (.l1 (l+1)) else none else none else some true
def sI (n:Nat)(self:Zr -> W9)(a b:List Ξ):W9:= bif ((a.length:Int) != (b.length:Int)) then some false else self (.l1 0)
def SW (a b:List Ξ):Nat -> Zr -> W9
 | 0,_=>none
 | n+1,.l1 l=>Zq n (SW a b n) a b l
def I9 (n:Nat)(a b:List Ξ):W9:=sI n (SW a b n) a b
def zC6 (n B:Nat)(N:Yd 0)(a b:List Ξ)(r:Bool):Zr -> Prop:=px n B Fence.wide N (FQ Tryz.f12 0 (.bool r) []) (Ac Tryz.f12) λ
 | .l1 l=>(0,0,AH 27 [(0,.sl 1 a.length (AO AW a)),(1,.sl 1 b.length (AO AW b)),(5,.i l)],[])
def zC7 (B:Nat)(N:Yd 0)(a b:List Ξ):Al (SW a b) (zC6 · B N a b):=ia (λ_=>rfl) λn w c r h=>by
 cases c
 case l1 x5=>
  intro m k;refine rd k λm k=>?_
  revert r;apply gO;exact bi 14 (jg zDK (gc (gi (gi (cf zCu [] λ_=>bi 26 (lE VQ [4] []) (gw 16 (lG VQ [] (w _ _ · m k)))))))) (lE VQ [4] [])
variable {r:Bool}{n:Nat}
def Nm {a b:List Ξ}(h:I9 n a b=some r):EQ 12 [.sl 1 a.length (AO AW a),.sl 1 b.length (AO AW b)] [] (.bool r) [] true:=by
 refine ot Tryz.func12 λB N=>?_
 revert r;apply gO;exact bi 10 (lE VQ [4] []) (lN VQ [] ((zC7 B N a b n) _ _ · n Nat.le.refl))
def zDI:Ae (A0 Tryz.f13 6) [] (List.range 9) []:=Z0
def VO:BF:=λi=>match i with
 | 6=>.ord [] (List.range 9) []
 | _=>.no
inductive Zn where
 | l1 (x5:Int)
def Zm (n:Nat)(self:Zn -> W9)(a b:List (Δ))(l:Int):W9:= bif (decide (l<(a.length:Int))) then if (0<=l/\ l<(a.length:Int))/\ (0<=l/\ l<(b.length:Int)) then bif (!((((a.getD l.toNat default).1)==((b.getD l.toNat default).1))&&((((a.getD l.toNat default).2)==((b.getD l.toNat default).2))&&true))) then some false else if AG (l+1) then self (.l1 (l+1)) else none else none else some true
def sG (n:Nat)(self:Zn -> W9)(a b:List (Δ)):W9:= bif ((a.length:Int) != (b.length:Int)) then some false else self (.l1 0)
def SU (a b:List (Δ)):Nat -> Zn -> W9
 | 0,_=>none
 | n+1,.l1 l=>Zm n (SU a b n) a b l
def LA (n:Nat)(a b:List (Δ)):W9:=sG n (SU a b n) a b
def zCz (n B:Nat)(N:Yd 0)(a b:List (Δ))(r:Bool):Zn -> Prop:=px n B Fence.wide N (FQ Tryz.f13 0 (.bool r) []) (Ac Tryz.f13) λ
 | .l1 l=>(0,0,AH 26 [(0,.sl 2 a.length (AO A2 a)),(1,.sl 2 b.length (AO A2 b)),(5,.i l)],[])
def zC0 (B:Nat)(N:Yd 0)(a b:List (Δ)):Al (SU a b) (zCz · B N a b):=ia (λ_=>rfl) λn w c r h=>by
 cases c
 case l1 x5=>
  intro m k;refine rd k λm k=>?_
  revert r;apply gO;exact bi 14 (jg zDI (gc (gi (gi (bi 25 (lE VO [4] []) (gw 16 (lG VO [] (w _ _ · m k)))))))) (lE VO [4] [])
def sF {a b:List (Δ)}(h:LA n a b=some r):EQ 13 [.sl 2 a.length (AO A2 a),.sl 2 b.length (AO A2 b)] [] (.bool r) [] true:=by
 refine ot Tryz.func13 λB N=>?_
 revert r;apply gO;exact bi 10 (lE VO [4] []) (lN VO [] ((zC0 B N a b n) _ _ · n Nat.le.refl))
def qo:ST:=.rd 0 (.rd 1 (.rd 2 (.rd 4 (.ef 3 (.ef 5 (.rd 6 (.ef 7 (.fin [0,1] [4]) (.no))) (.no)) (.ef 5 (.ef 3 (.rd 6 (.ef 7 (.fin [1,0] [4]) (.no))) (.no)) (.no))))))
def zD9:B2 (A0 Tryz.f23 1) [3,5] qo:=Z1
def zCp:BF:=λi=>match i with
 | 1=>.tre [3,5] qo
 | _=>.no
def gq (cells l:Int):St:=⟨(AH 12 [(4,.ref 0 0)]),([oC [.i cells,.i l,.msl 1 1 0 l.toNat,.msl 2 1 0 cells.toNat,.nils],oI (List.replicate l.toNat (0:Int)),some (.arr 1 ((List.replicate cells.toNat ([]:Ξ)).length) (AO AW (List.replicate cells.toNat ([]:Ξ))))]:DH)⟩
def zMv (n:Nat)(cells l:Int):Option AA:= if ((l:Int)=l/\ 0<=l/\ (l:Int)<=1000000000000)/\ ((cells:Int)=cells/\ 0<=cells/\ (cells:Int)<=1000000000000) then if (l).toNat=(List.replicate l.toNat (0:Int)).length/\ (cells).toNat=(List.replicate cells.toNat ([]:Ξ)).length then some (⟨cells,l,List.replicate l.toNat (0:Int),(List.replicate cells.toNat ([]:Ξ)),([]:List AC)⟩:AA) else none else none
def eE (n:Nat)(cells l:Int):Option AA:=zMv n cells l
def Xg {cells a:Int}{r:AA}(h:eE n cells a=some r):EQ 23 [.i cells,.i a] [] (.agg 5 (L1 (AE r))) [] true:=by
 refine ot Tryz.func23 λB N=>?_
 revert r;apply gO;exact jg zD9 (gc (gn λW=>jg W (gn λb=>jg b (ja 10 2 1 (tA (c:=AW) (x:=([]:Ξ)) (n:=(cells).toNat) (l:=[.nils]) ⟨AM.ints_nil,trivial⟩) (jt (jg (Eq.refl (gq cells a)) (jg b (ja 10 1 1 (tA (c:=AW) (x:=([]:Ξ)) (n:=(cells).toNat) (l:=[.nils]) ⟨AM.ints_nil,trivial⟩) (jg W (jt (jg (Eq.refl (gq cells a)) (gc (gn λd=>gn λR=>lF λp=>el (tg:=[([],(gq cells a))]) zCp [4] [0,1,2] p [1,2] (H0.g d |>.g R) [.agg 5 (L1 [.i cells,.i a,.ints (List.replicate a.toNat (0:Int)),.sl 1 ((List.replicate cells.toNat ([]:Ξ)).length) (AO AW (List.replicate cells.toNat ([]:Ξ))),.nils])] (AM.aggL (l:=[.i cells,.i a,.ints (List.replicate a.toNat (0:Int)),.sl 1 ((List.replicate cells.toNat ([]:Ξ)).length) (AO AW (List.replicate cells.toNat ([]:Ξ))),.nils]) (l':=[.i cells,.i a,.ints (List.replicate a.toNat (0:Int)),.sl 1 ((List.replicate cells.toNat ([]:Ξ)).length) (AO AW (List.replicate cells.toNat ([]:Ξ))),.sl 9 (([]:List AC).length) (AO AX ([]:List AC))]) rfl ⟨Ar,Ar,Ar,Ar,(AM.sl_nil _ _),trivial⟩))))))))))))))
def zEE:Ae (A0 Tryz.f9 9) [] (List.range 18) []:=Z0
def J3:BF:=λi=>match i with
 | 9=>.ord [] (List.range 18) []
 | _=>.no
inductive Xp where
 | l1 (x3 x4:Int)
 | l2 (x3 x5:Int)
def Xo (n:Nat)(self:Xp -> W9)(q:AA)(D I:Int):W9:= bif (decide (I<(q.nb.length:Int))) then bif (decide (D<200)) then if (0<=I/\ I<(q.nb.length:Int))/\ AG (D+(((q.nb.getD I.toNat []).length:Nat):Int))/\ AG (I+1) then self (.l1 (D+(((q.nb.getD I.toNat []).length:Nat):Int)) (I+1)) else none else self (.l2 D 0) else self (.l2 D 0)
def RA (n:Nat)(self:Xp -> W9)(q:AA)(D l:Int):W9:= bif (decide (l<(q.cons.length:Int))) then bif (decide (D<200)) then if (0<=l/\ l<(q.cons.length:Int))/\ AG (((((q.cons.getD l.toNat default).ce).length:Nat):Int)+((((q.cons.getD l.toNat default).ru).length:Nat):Int))/\ AG (D+(((((q.cons.getD l.toNat default).ce).length:Nat):Int)+((((q.cons.getD l.toNat default).ru).length:Nat):Int))) then bif (((q.cons.getD l.toNat default).kind)==5) then bif (decide (((((q.cons.getD l.toNat default).ce).length:Nat):Int)>9)) then some false else if AG (l+1) then self (.l2 (D+(((((q.cons.getD l.toNat default).ce).length:Nat):Int)+((((q.cons.getD l.toNat default).ru).length:Nat):Int))) (l+1)) else none else if AG (l+1) then self (.l2 (D+(((((q.cons.getD l.toNat default).ce).length:Nat):Int)+((((q.cons.getD l.toNat default).ru).length:Nat):Int))) (l+1)) else none else none else some false else bif (decide (D<200)) then bif (decide (q.ce<=16)) then some (decide (q.sy<=4)) else some false else some false
def zA (n:Nat)(self:Xp -> W9)(q:AA):W9:= if AG ((q.va.length:Int)+(q.nb.length:Int))/\ AG (((q.va.length:Int)+(q.nb.length:Int))+(q.cons.length:Int)) then self (.l1 (((q.va.length:Int)+(q.nb.length:Int))+(q.cons.length:Int)) 0) else none
def Gm (q:AA):Nat -> Xp -> W9
 | 0,_=>none
 | n+1,.l1 D I=>Xo n (Gm q n) q D I
 | n+1,.l2 D l=>RA n (Gm q n) q D l
def Xq (n:Nat)(q:AA):W9:=zA n (Gm q n) q
def zNQ (n B:Nat)(N:Yd 0)(q:AA)(r:Bool):Xp -> Prop:=px n B Fence.wide N (FQ Tryz.f9 0 (.bool r) []) (Ac Tryz.f9) λ
 | .l1 D I=>(0,0,AH 93 [(1,.ref 0 0),(3,.i D),(4,.i I)],[oC (AE q)])
 | .l2 D l=>(0,2,AH 93 [(1,.ref 0 0),(3,.i D),(5,.i l)],[oC (AE q)])
def zNR (B:Nat)(N:Yd 0)(q:AA):Al (Gm q) (zNQ · B N q):=ia (λ_=>rfl) λn w a r h=>by
 cases a
 case l1 x3 x4=>
  intro m k;refine rd k λm k=>?_
  revert r;apply gO;exact bi 21 (bi 24 (gc (gi (gc (gw 35 (gw 27 (lG J3 [0] (w _ _ · m k))))))) (lN J3 [0] (w _ _ · n Nat.le.refl))) (lN J3 [0] (w _ _ · n Nat.le.refl))
 case l2 x3 x5=>
  intro m k;refine rd k λm k=>?_
  revert r;apply gO;exact bi 40 (bj 43 (λ_=>jg zEE (gc (gn λW=>jg W (jg W (gc (gw 62 (gw 63 (jg W (bi 70 (jg W (bi 79 (lE J3 [2] []) (gw 46 (lG J3 [0] (w _ _ · m k))))) (gw 46 (lG J3 [0] (w _ _ · m k)))))))))))) (λb=>jb 82 b (lE J3 [2] []))) (bi 82 (bi 86 (lE J3 [2] []) (lE J3 [2] [])) (lE J3 [2] []))
def yz {q:AA}(h:Xq n q=some r):EQ 9 [.agg 5 (L1 (AE q))] [] (.bool r) [] true:=by
 refine ot Tryz.func9 λB N=>?_
 revert r;apply gO;exact gc (gw 12 (gw 16 (lN J3 [0] ((zNR B N q n) _ _ · n Nat.le.refl) [] (show _=some (_,_,_,[_,_],_) by kernel_rfl))))
def zKd (o:AA):DH:=[oC [.i o.ce,.i o.sy,.ints o.va,.sl 1 o.nb.length (AO AW o.nb),.sl 9 (([(⟨1,([0,1]:Ξ),0,0,0,0,([]:Ξ),0,0⟩:AC)]:List AC).length) (AO AX ([(⟨1,([0,1]:Ξ),0,0,0,0,([]:Ξ),0,0⟩:AC)]:List AC))],none]
def mB (o:AA):DH:=[oC [.i o.ce,.i o.sy,.ints o.va,.sl 1 o.nb.length (AO AW o.nb),.sl 9 (([(⟨1,([0,1]:Ξ),0,0,0,0,([]:Ξ),0,0⟩:AC)]:List AC).length) (AO AX ([(⟨1,([0,1]:Ξ),0,0,0,0,([]:Ξ),0,0⟩:AC)]:List AC))],none,oI ([7,7]:Ξ)]
def Tn (o:AA):DH:=[oC [.i o.ce,.i o.sy,.ints o.va,.sl 1 o.nb.length (AO AW o.nb),.sl 9 (([(⟨1,([0,1]:Ξ),0,0,0,0,([]:Ξ),0,0⟩:AC)]:List AC).length) (AO AX ([(⟨1,([0,1]:Ξ),0,0,0,0,([]:Ξ),0,0⟩:AC)]:List AC))],none,oI ([7,7]:Ξ),oI ([7,7]:Ξ)]
def mA (o:AA):DH:=[oC [.i o.ce,.i o.sy,.ints o.va,.sl 1 o.nb.length (AO AW o.nb),.sl 9 (([(⟨1,([0,1]:Ξ),0,0,0,0,([]:Ξ),0,0⟩:AC)]:List AC).length) (AO AX ([(⟨1,([0,1]:Ξ),0,0,0,0,([]:Ξ),0,0⟩:AC)]:List AC))],none,oI ([7,7]:Ξ),oI ([7,7]:Ξ),oI ([7,3,3]:Ξ)]
def lz (o:AA):DH:=[oC [.i o.ce,.i o.sy,.ints o.va,.sl 1 o.nb.length (AO AW o.nb),.sl 9 (([(⟨1,([0,1]:Ξ),0,0,0,0,([]:Ξ),0,0⟩:AC)]:List AC).length) (AO AX ([(⟨1,([0,1]:Ξ),0,0,0,0,([]:Ξ),0,0⟩:AC)]:List AC))],none,oI ([7,7]:Ξ),oI ([7,7]:Ξ),oI ([7,3,3]:Ξ),none,none,none]
def ly (o:AA):DH:=[oC [.i o.ce,.i o.sy,.ints o.va,.sl 1 o.nb.length (AO AW o.nb),.sl 9 (([(⟨1,([0,1]:Ξ),0,0,0,0,([]:Ξ),0,0⟩:AC)]:List AC).length) (AO AX ([(⟨1,([0,1]:Ξ),0,0,0,0,([]:Ξ),0,0⟩:AC)]:List AC))],none,oI ([7,7]:Ξ),oI ([7,7]:Ξ),oI ([7,3,3]:Ξ),none,none,none,none,none]
def sB (n:Nat):W9:= (eE n 1 2).bind λe=> (HE n e ([3]:Ξ) 3).bind λx=> (HE n e ([3]:Ξ) 2).bind λy3=> (HE n e ([1]:Ξ) 1).bind λm=> (HE n e ([0]:Ξ) 1).bind λR=> (HE n e ([1]:Ξ) (-1)).bind λd=> (JK n e ([3]:Ξ) 0 9).bind λN=> (eE n 2 3).bind λo=> (JK n (⟨o.ce,o.sy,o.va,o.nb,([(⟨1,([0,1]:Ξ),0,0,0,0,([]:Ξ),0,0⟩:AC)]:List AC)⟩:AA) ([7,7]:Ξ) 100 1000).bind λO=> (JK n (⟨o.ce,o.sy,o.va,o.nb,([(⟨1,([0,1]:Ξ),0,0,0,0,([]:Ξ),0,0⟩:AC)]:List AC)⟩:AA) ([7,7]:Ξ) 2 1000).bind λP=> (eE n 3 3).bind λz=> (NE n z ([7,3,3]:Ξ)).bind λa=> bif (x.2.2==0) then (I9 n x.1 ([([0]:Ξ),([1]:Ξ)]:List Ξ)).bind λr=> bif r then bif ((x.2.1.length:Int)==0) then bif (y3.2.2==220) then bif (m.2.2==0) then (I9 n m.1 ([([0]:Ξ)]:List Ξ)).bind λs=> bif s then bif ((m.2.1.length:Int)==1) then if (0:Int)<=0/\ 0<(m.2.1.length:Int) then bif (((m.2.1.getD 0 default).1)==4) then bif (R.2.2==0) then bif ((R.1.length:Int)==0) then bif ((R.2.1.length:Int)==1) then if (0:Int)<=0/\ 0<(R.2.1.length:Int) then bif (((R.2.1.getD 0 default).1)==3) then bif (d.2.2==1) then bif (N.2==1) then bif (O.1==6) then bif (O.2==0) then bif (P.1==2) then bif (P.2==0) then bif (a.1==1) then bif a.2.1 then some (a.2.2==0) else some false else some false else some false else some false else some false else some false else some false else some false else some false else none else some false else some false else some false else some false else none else some false else some false else some false else some false else some false else some false else some false
def SR (n:Nat):W9:=sB n
def sA (h:SR n=some r):EQ 8 [] [] (.bool r) [] true:=by
 unfold SR sB at h;refine ot Tryz.func8 λB N=>?_
 revert r;apply gO
 exact cf Xg [] λe=>jt (jz 31 1 (jg (by decide:1=([3]:Ξ).length) (cf Q9 [oC (AE e),none] λx=>jz 38 2 (jg (by decide:1=([3]:Ξ).length) (cf Q9 [oC (AE e),none,none] λy3=>jz 45 3 (jg (by decide:1=([1]:Ξ).length) (cf Q9 [oC (AE e),none,none,none] λm=>jz 52 4 (jg (by decide:1=([0]:Ξ).length) (cf Q9 [oC (AE e),none,none,none,none] λR=>jz 59 5 (jg (by decide:1=([1]:Ξ).length) (cf Q9 [oC (AE e),none,none,none,none,none] λJ=>cn λK Q=>jc (sb [.agg 5 (L1 (AE e)),.msl 6 1 0 1,.i 0,.i 9] (Mi Q) [oC (AE e),none,none,none,none,none,oI ([3]:Ξ)] ⟨Ax.plain Z5,Ax.ints rfl (by decide:1=([3]:Ξ).length),Ax.plain Z5,Ax.plain Z5,trivial⟩) (cf Xg [oC (AE e),none,none,none,none,none,oI ([3]:Ξ)] λo=>jt (jz 71 8 (jg (by decide:2=([0,1]:Ξ).length) (ja 73 9 9 (Gb (c:=AX) (L:=([(⟨1,([0,1]:Ξ),0,0,0,0,([]:Ξ),0,0⟩:AC)]:List AC)) (vals:=[.agg 9 (L1 [.i 1,.ints ([0,1]:Ξ),.i 0,.i 0,.i 0,.i 0,.nils,.i 0,.i 0])]) rfl ⟨⟨_,rfl,⟨Ar,Ar,Ar,Ar,Ar,Ar,AM.ints_nil,Ar,Ar,trivial⟩⟩,trivial⟩) (jt (λp r h=>by
  refine gz (AJ 10 AD) [7,9] p [1] (H0.g (Eq.refl 1)) (Dr (Ac Tryz.f8) 10 []) (AH 191 [(2,.sl 1 x.1.length (AO AW x.1)),(3,.sl 2 x.2.1.length (AO A2 x.2.1)),(4,.i x.2.2),(7,.i y3.2.2),(8,.sl 1 m.1.length (AO AW m.1)),(9,.sl 2 m.2.1.length (AO A2 m.2.1)),(10,.i m.2.2),(11,.sl 1 R.1.length (AO AW R.1)),(12,.sl 2 R.2.1.length (AO A2 R.2.1)),(13,.i R.2.2),(16,.i J.2.2),(18,.i K.2),(19,.ref 0 0)]) (zKd o) ?_;revert r;apply gO;exact cn λy9 b=>jc (sb [.agg 5 (L1 [.i o.ce,.i o.sy,.ints o.va,.sl 1 o.nb.length (AO AW o.nb),.sl 9 (([(⟨1,([0,1]:Ξ),0,0,0,0,([]:Ξ),0,0⟩:AC)]:List AC).length) (AO AX ([(⟨1,([0,1]:Ξ),0,0,0,0,([]:Ξ),0,0⟩:AC)]:List AC))]),.msl 2 1 0 2,.i 100,.i 1000] (Mi b) (mB o) ⟨Ax.plain Z5,Ax.ints rfl (by decide:2=([7,7]:Ξ).length),Ax.plain Z5,Ax.plain Z5,trivial⟩) (cn λgJ S=>jc (sb [.agg 5 (L1 [.i o.ce,.i o.sy,.ints o.va,.sl 1 o.nb.length (AO AW o.nb),.sl 9 (([(⟨1,([0,1]:Ξ),0,0,0,0,([]:Ξ),0,0⟩:AC)]:List AC).length) (AO AX ([(⟨1,([0,1]:Ξ),0,0,0,0,([]:Ξ),0,0⟩:AC)]:List AC))]),.msl 3 1 0 2,.i 2,.i 1000] (Mi S) (Tn o) ⟨Ax.plain Z5,Ax.ints rfl (by decide:2=([7,7]:Ξ).length),Ax.plain Z5,Ax.plain Z5,trivial⟩) (cn λz T=>jc (fb (Xg T) (Tn o)) (cn λYr U=>jc (sb [.agg 5 (L1 (AE z)),.msl 4 1 0 3] (YM U) (mA o) ⟨Ax.plain Z5,Ax.ints rfl (by decide:3=([7,3,3]:Ξ).length),trivial⟩) (bj 95 (λj=>jz 98 5 (jg (by decide:1=([0]:Ξ).length) (jz 99 6 (jg (by decide:1=([1]:Ξ).length) (ja 100 7 1 (Gb (c:=AW) (L:=([([0]:Ξ),([1]:Ξ)]:List Ξ)) (vals:=[.ints ([0]:Ξ),.ints ([1]:Ξ)]) rfl ⟨⟨_,rfl,⟨Ar,trivial⟩⟩,⟨_,rfl,⟨Ar,trivial⟩⟩,trivial⟩) (jz 100 7 (jg (by decide:2=([([0]:Ξ),([1]:Ξ)]:List Ξ).length) (cn λpN V=>jc (fb (Nm V) (lz o)) (bj 101 (λw=>bj 106 (λk=>bj 110 (λl=>bj 114 (λq=>jz 118 8 (jg (by decide:1=([0]:Ξ).length) (ja 119 9 1 (Gb (c:=AW) (L:=([([0]:Ξ)]:List Ξ)) (vals:=[.ints ([0]:Ξ)]) rfl ⟨⟨_,rfl,⟨Ar,trivial⟩⟩,trivial⟩) (jz 119 9 (jg (by decide:1=([([0]:Ξ)]:List Ξ).length) (cn λpM W=>jc (fb (Nm W) (ly o)) (bj 120 (λP=>bj 125 (λs=>gn λd=>jg d (bj 132 (λt=>bj 136 (λu=>bj 141 (λv=>bj 146 (λA=>gn λf=>jg f (bj 153 (λy=>bj 158 (λa=>bj 162 (λF=>bj 166 (λC=>bj 170 (λH=>bj 174 (λD=>bj 178 (λI=>bj 182 (λE=>bn (λG=>rO (jc (sb [.agg 5 (L1 [.i o.ce,.i o.sy,.ints o.va,.sl 1 o.nb.length (AO AW o.nb),.sl 9 (([(⟨1,([0,1]:Ξ),0,0,0,0,([]:Ξ),0,0⟩:AC)]:List AC).length) (AO AX ([(⟨1,([0,1]:Ξ),0,0,0,0,([]:Ξ),0,0⟩:AC)]:List AC))]),.msl 2 1 0 2,.i 100,.i 1000] (Mi b) (mB o) ⟨Ax.plain Z5,Ax.ints rfl (by decide:2=([7,7]:Ξ).length),Ax.plain Z5,Ax.plain Z5,trivial⟩) (jc (sb [.agg 5 (L1 [.i o.ce,.i o.sy,.ints o.va,.sl 1 o.nb.length (AO AW o.nb),.sl 9 (([(⟨1,([0,1]:Ξ),0,0,0,0,([]:Ξ),0,0⟩:AC)]:List AC).length) (AO AX ([(⟨1,([0,1]:Ξ),0,0,0,0,([]:Ξ),0,0⟩:AC)]:List AC))]),.msl 3 1 0 2,.i 2,.i 1000] (Mi S) (Tn o) ⟨Ax.plain Z5,Ax.ints rfl (by decide:2=([7,7]:Ξ).length),Ax.plain Z5,Ax.plain Z5,trivial⟩) (jc (fb (Xg T) (Tn o)) (jc (sb [.agg 5 (L1 (AE z)),.msl 4 1 0 3] (YM U) (mA o) ⟨Ax.plain Z5,Ax.ints rfl (by decide:3=([7,3,3]:Ξ).length),trivial⟩) (jb 92 G (jb 95 j (jz 98 5 (jg (by decide:1=([0]:Ξ).length) (jz 99 6 (jg (by decide:1=([1]:Ξ).length) (ja 100 7 1 (Gb (c:=AW) (L:=([([0]:Ξ),([1]:Ξ)]:List Ξ)) (vals:=[.ints ([0]:Ξ),.ints ([1]:Ξ)]) rfl ⟨⟨_,rfl,⟨Ar,trivial⟩⟩,⟨_,rfl,⟨Ar,trivial⟩⟩,trivial⟩) (jz 100 7 (jg (by decide:2=([([0]:Ξ),([1]:Ξ)]:List Ξ).length) (jc (fb (Nm V) (lz o)) (jb 101 w (jb 106 k (jb 110 l (jb 114 q (jz 118 8 (jg (by decide:1=([0]:Ξ).length) (ja 119 9 1 (Gb (c:=AW) (L:=([([0]:Ξ)]:List Ξ)) (vals:=[.ints ([0]:Ξ)]) rfl ⟨⟨_,rfl,⟨Ar,trivial⟩⟩,trivial⟩) (jz 119 9 (jg (by decide:1=([([0]:Ξ)]:List Ξ).length) (jc (fb (Nm W) (ly o)) (jb 120 P (jb 125 s (jg d (jb 132 t (jb 136 u (jb 141 v (jb 146 A (jg f (jb 153 y (jb 158 a (jb 162 F (jb 166 C (jb 170 H (jb 174 D (jb 178 I (jb 182 E (lE AD [0] [])))))))))))))))))))))))))))))))))))))))))) (λG=>rO (jc (sb [.agg 5 (L1 [.i o.ce,.i o.sy,.ints o.va,.sl 1 o.nb.length (AO AW o.nb),.sl 9 (([(⟨1,([0,1]:Ξ),0,0,0,0,([]:Ξ),0,0⟩:AC)]:List AC).length) (AO AX ([(⟨1,([0,1]:Ξ),0,0,0,0,([]:Ξ),0,0⟩:AC)]:List AC))]),.msl 2 1 0 2,.i 100,.i 1000] (Mi b) (mB o) ⟨Ax.plain Z5,Ax.ints rfl (by decide:2=([7,7]:Ξ).length),Ax.plain Z5,Ax.plain Z5,trivial⟩) (jc (sb [.agg 5 (L1 [.i o.ce,.i o.sy,.ints o.va,.sl 1 o.nb.length (AO AW o.nb),.sl 9 (([(⟨1,([0,1]:Ξ),0,0,0,0,([]:Ξ),0,0⟩:AC)]:List AC).length) (AO AX ([(⟨1,([0,1]:Ξ),0,0,0,0,([]:Ξ),0,0⟩:AC)]:List AC))]),.msl 3 1 0 2,.i 2,.i 1000] (Mi S) (Tn o) ⟨Ax.plain Z5,Ax.ints rfl (by decide:2=([7,7]:Ξ).length),Ax.plain Z5,Ax.plain Z5,trivial⟩) (jc (fb (Xg T) (Tn o)) (jc (sb [.agg 5 (L1 (AE z)),.msl 4 1 0 3] (YM U) (mA o) ⟨Ax.plain Z5,Ax.ints rfl (by decide:3=([7,3,3]:Ξ).length),trivial⟩) (jb 92 G (jb 95 j (jz 98 5 (jg (by decide:1=([0]:Ξ).length) (jz 99 6 (jg (by decide:1=([1]:Ξ).length) (ja 100 7 1 (Gb (c:=AW) (L:=([([0]:Ξ),([1]:Ξ)]:List Ξ)) (vals:=[.ints ([0]:Ξ),.ints ([1]:Ξ)]) rfl ⟨⟨_,rfl,⟨Ar,trivial⟩⟩,⟨_,rfl,⟨Ar,trivial⟩⟩,trivial⟩) (jz 100 7 (jg (by decide:2=([([0]:Ξ),([1]:Ξ)]:List Ξ).length) (jc (fb (Nm V) (lz o)) (jb 101 w (jb 106 k (jb 110 l (jb 114 q (jz 118 8 (jg (by decide:1=([0]:Ξ).length) (ja 119 9 1 (Gb (c:=AW) (L:=([([0]:Ξ)]:List Ξ)) (vals:=[.ints ([0]:Ξ)]) rfl ⟨⟨_,rfl,⟨Ar,trivial⟩⟩,trivial⟩) (jz 119 9 (jg (by decide:1=([([0]:Ξ)]:List Ξ).length) (jc (fb (Nm W) (ly o)) (jb 120 P (jb 125 s (jg d (jb 132 t (jb 136 u (jb 141 v (jb 146 A (jg f (jb 153 y (jb 158 a (jb 162 F (jb 166 C (jb 170 H (jb 174 D (jb 178 I (jb 182 E (lE AD [0] []))))))))))))))))))))))))))))))))))))))))))) (λ_=>lE AD [0] [])) (λ_=>lE AD [0] [])) (λ_=>lE AD [0] [])) (λ_=>lE AD [0] [])) (λ_=>lE AD [0] [])) (λ_=>lE AD [0] [])) (λ_=>lE AD [0] [])) (λ_=>lE AD [0] []))) (λ_=>lE AD [0] [])) (λ_=>lE AD [0] [])) (λ_=>lE AD [0] [])) (λ_=>lE AD [0] []))) (λ_=>lE AD [0] [])) (λ_=>lE AD [0] [])))))))) (λ_=>lE AD [0] [])) (λ_=>lE AD [0] [])) (λ_=>lE AD [0] [])) (λ_=>lE AD [0] [])))))))))) (λ_=>lE AD [0] []))))))))))))))))))))))
end
end Go.Proofs.YtodinaconebmdaaGreatDoor
