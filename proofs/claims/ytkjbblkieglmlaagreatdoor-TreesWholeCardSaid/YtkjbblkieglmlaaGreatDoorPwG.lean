/- Part 7 of 7 of what the proofs of these laws stand on. -/
import Derived.Test.YtkjbblkieglmlaaGreatDoorPwF
import Derived.Test.YtkjbblkieglmlaaGreatDoorRows
import Derived.ProofKit
import Derived.OpenShut
import Derived.Deep.DeepHandedRow
import Derived.Lib.LaidTab
import Derived.Deep.Slices
import Derived.Stop.LaidErr
import Derived.Test.YtkjbblkieglmlaaGreatDoorCards
import Derived.Test.YtkjbblkieglmlaaGreatDoorTie
set_option linter.all false
namespace Go.Proofs.YtkjbblkieglmlaaGreatDoor
open Go.RowKit
set_option maxRecDepth 100000
set_option maxHeartbeats 40000000
theorem rC:Ar (Ag Tryz.f7 10) [([0,1,2,3,4,5,6],7)] [8,9,10,11,12] []:=by unfold Ar;kernel_rfl
def ea:ST:=.rd 0 (.rd 1 (.rd 3 (.rd 5 (.ef 2 (.ef 4 (.ef 6 (.ef 7 (.ef 8 (.rd 9 (.rd 10 (.rd 11 (.rd 12 (.rd 13 (.fin [0,1,2,3] [12,14])))))) (.no)) (.no)) (.no)) (.ef 6 (.ef 4 (.ef 7 (.ef 8 (.rd 9 (.rd 10 (.rd 11 (.rd 12 (.rd 13 (.fin [0,2,1,3] [12,14])))))) (.no)) (.no)) (.no)) (.no))) (.ef 6 (.ef 2 (.ef 4 (.ef 7 (.ef 8 (.rd 9 (.rd 10 (.rd 11 (.rd 12 (.rd 13 (.fin [1,2,0,3] [12,14])))))) (.no)) (.no)) (.no)) (.no)) (.no))))))
theorem rB:Bq (Ag Tryz.f7 11) [2,4,6,7] ea:=by unfold Bq;kernel_rfl
def J2:Bi:=fun i=>match i with
 | 10=>.ord [([0,1,2,3,4,5,6],7)] [8,9,10,11,12] []
 | 11=>.tre [2,4,6,7] ea
 | _=>.no
def zS (q:AA) (AW:Int×Int):DH:=[some (.cells (AC q)),some (.cells [.i AW.1,.i AW.2]),none,none,some (.arr 2 (([(AW.1,AW.2)]:List (Int×Int)).length) (AQ Aw ([(AW.1,AW.2)]:List (Int×Int)))),none]
def UW (A7:Int) (y1:(List (List Int))×Int) (q:AA) (AW:Int×Int):St:=⟨(AG 63 [(12,.i A7),(14,.i y1.2)]),([some (.cells (AC q)),some (.cells [.i AW.1,.i AW.2]),none,none,some (.arr 2 (([(AW.1,AW.2)]:List (Int×Int)).length) (AQ Aw ([(AW.1,AW.2)]:List (Int×Int)))),none]:DH)⟩
def zR (q:AA) (AW:Int×Int):DH:=[some (.cells (AC q)),some (.cells [.i AW.1,.i AW.2]),none,some (.arr 2 (([(AW.1,AW.2)]:List (Int×Int)).length) (AQ Aw ([(AW.1,AW.2)]:List (Int×Int)))),none,none]
def zQ (q:AA) (AW:Int×Int):DH:=[some (.cells (AC q)),some (.cells [.i AW.1,.i AW.2]),some (.arr 2 (([(AW.1,AW.2)]:List (Int×Int)).length) (AQ Aw ([(AW.1,AW.2)]:List (Int×Int)))),none,none,none]
inductive PP where
 | l1
 | l2 (A7:Int)
 | l3 (A7 Mh:Int)
def Z3 (n:Nat) (self:PP -> Option Bool) (q:AA) (pos:List Int) (tree:List (Int×Int)) (AW:Int×Int):Option Bool:=
 if AL ((tree.length:Int)-1)/\ ((0:Int)<=0/\ 0<=((tree.length:Int)-1)/\ ((tree.length:Int)-1)<=(tree.length:Int)) then
  (Hl n q pos (tree.take (((tree.length:Int)-1)).toNat)).bind fun y1=>
   self (.l2 y1.2)
 else none
def Z2 (n:Nat) (self:PP -> Option Bool) (q:AA) (pos:List Int) (tree:List (Int×Int)) (AW:Int×Int) (A7:Int):Option Bool:=
 if ([]:List (Int×Int)).length+tree.length<=BB/\ (([]:List (Int×Int)).length+tree.length)=(([]:List (Int×Int))++tree).length/\ (([]:List (Int×Int))++tree).length+([(AW.1,AW.2)]:List (Int×Int)).length<=BB/\ ((([]:List (Int×Int))++tree).length+([(AW.1,AW.2)]:List (Int×Int)).length)=((([]:List (Int×Int))++tree)++([(AW.1,AW.2)]:List (Int×Int))).length then
  (Hl n q pos ((([]:List (Int×Int))++tree)++([(AW.1,AW.2)]:List (Int×Int)))).bind fun y1=>
   self (.l3 A7 y1.2)
 else none
def vo (n:Nat) (self:PP -> Option Bool) (q:AA) (pos:List Int) (tree:List (Int×Int)) (AW:Int×Int) (A7 Mh:Int):Option Bool:=
 bif (A7==280) then
  some (Mh==280)
 else
  some false
def vp (n:Nat) (self:PP -> Option Bool) (q:AA) (pos:List Int) (tree:List (Int×Int)) (AW:Int×Int):Option Bool:=
 (Ow n).bind fun y1=>
  bif (!y1) then
   some false
  else
   (MC n q pos tree).bind fun y2=>
    bif (!y2) then
     some true
    else
     (Hl n q pos tree).bind fun y3=>
      bif (y3.2 != 0) then
       some true
      else
       bif ((tree.length:Int)==0) then
        some false
       else
        self (.l1)
def KL (q:AA) (pos:List Int) (tree:List (Int×Int)) (AW:Int×Int):Nat -> PP -> Option Bool
 | 0,_=>none
 | n+1,.l1=>Z3 n (KL q pos tree AW n) q pos tree AW
 | n+1,.l2 A7=>Z2 n (KL q pos tree AW n) q pos tree AW A7
 | n+1,.l3 A7 Mh=>vo n (KL q pos tree AW n) q pos tree AW A7 Mh
def jV (n:Nat) (q:AA) (pos:List Int) (tree:List (Int×Int)) (AW:Int×Int):Option Bool:=vp n (KL q pos tree AW n) q pos tree AW
def vq (n B:Nat) (N:Yd 0) (q:AA) (pos:List Int) (tree:List (Int×Int)) (AW:Int×Int) (r:Bool):PP -> Prop
 | .l1=>TW B N (FQ Tryz.f7 0 (.bool r) []) (CO (AY Tryz.f7) 10 []) ⟨AG 63 [(1,.ints pos),(2,.sl 2 tree.length (AQ Aw tree)),(4,.ref 0 0),(7,.ref 1 0)],[some (.cells (AC q)),some (.cells [.i AW.1,.i AW.2])]⟩
 | .l2 A7=>TW B N (FQ Tryz.f7 0 (.bool r) []) (CO (AY Tryz.f7) 11 []) ⟨AG 63 [(1,.ints pos),(2,.sl 2 tree.length (AQ Aw tree)),(4,.ref 0 0),(7,.ref 1 0),(12,.i A7)],[some (.cells (AC q)),some (.cells [.i AW.1,.i AW.2])]⟩
 | .l3 A7 Mh=>TW B N (FQ Tryz.f7 0 (.bool r) []) (CO (AY Tryz.f7) 12 []) ⟨AG 63 [(12,.i A7),(14,.i Mh)],[]⟩
theorem vr (B:Nat) (N:Yd 0) (q:AA) (pos:List Int) (tree:List (Int×Int)) (AW:Int×Int):Al (KL q pos tree AW) (vq · B N q pos tree AW):=ia (fun _=>rfl) fun n AK pt r h=>by
 cases pt
 case l1=>
  revert r;apply gO;exact jg rC (gc (gw 40 (gn fun g1=>jg g1 (jo 41 (AS.cut (c:=Aw) (L:=tree) (m:=2) g1) (cf Lg [some (.cells (AC q)),some (.cells [.i AW.1,.i AW.2])] fun _=>lG (AR 12 (AR 11 J2)) [0,1] (AK _ _ ·))))))
 case l2 A7=>
  revert r;apply gO;exact jg rB (ja 48 2 2 (ER (c:=Aw) (L:=([]:List (Int×Int))) (vals:=[]) rfl trivial) (gc (gn fun g0=>jg (And.intro (And.intro trivial (I6 Aw tree tree.length 2 fun _=>⟨rfl,rfl⟩)) (And.intro (And.intro (Eq.refl 0) (by decide:0=([]:List (Int×Int)).length)) g0)) (ja 50 3 2 (LM (enc:=(MG Aw)) (L:=([]:List (Int×Int))) (L':=tree) rfl rfl fun _ _ _ _=>At) (ja 52 4 2 (ER (c:=Aw) (L:=([(AW.1,AW.2)]:List (Int×Int))) (vals:=[.agg 2 (L1 [.i AW.1,.i AW.2])]) rfl ⟨⟨_,rfl,⟨At,At,trivial⟩⟩,trivial⟩) (gc (gn fun g1=>gc (gn fun g2=>jg (And.intro (And.intro (And.intro (Eq.refl 0) (Eq.refl 1)) (I6 Aw ([(AW.1,AW.2)]:List (Int×Int)) (([(AW.1,AW.2)]:List (Int×Int)).length) 2 fun _=>⟨rfl,rfl⟩)) (And.intro (And.intro (Eq.refl 0) g1) g2)) (ja 53 5 2 (LM (enc:=(MG Aw)) (L:=(([]:List (Int×Int))++tree)) (L':=([(AW.1,AW.2)]:List (Int×Int))) rfl rfl fun _ _ _ _=>At) (jz 53 5 (gn fun g3=>jg g3 (cn fun y1 A5=>jc (fb (Lg A5) (zS q AW)) (jg (Eq.refl (UW A7 y1 q AW)) (ja 52 3 2 (ER (c:=Aw) (L:=([(AW.1,AW.2)]:List (Int×Int))) (vals:=[.agg 2 (L1 [.i AW.1,.i AW.2])]) rfl ⟨⟨_,rfl,⟨At,At,trivial⟩⟩,trivial⟩) (jg (And.intro (And.intro trivial (I6 Aw tree tree.length 2 fun _=>⟨rfl,rfl⟩)) (And.intro (And.intro (Eq.refl 0) (by decide:0=([]:List (Int×Int)).length)) g0)) (ja 50 4 2 (LM (enc:=(MG Aw)) (L:=([]:List (Int×Int))) (L':=tree) rfl rfl fun _ _ _ _=>At) (jg (And.intro (And.intro (And.intro (Eq.refl 0) (Eq.refl 1)) (I6 Aw ([(AW.1,AW.2)]:List (Int×Int)) (([(AW.1,AW.2)]:List (Int×Int)).length) 2 fun _=>⟨rfl,rfl⟩)) (And.intro (And.intro (Eq.refl 0) g1) g2)) (ja 53 5 2 (LM (enc:=(MG Aw)) (L:=(([]:List (Int×Int))++tree)) (L':=([(AW.1,AW.2)]:List (Int×Int))) rfl rfl fun _ _ _ _=>At) (jz 53 5 (jg g3 (jc (fb (Lg A5) (zR q AW)) (jg (Eq.refl (UW A7 y1 q AW)) (ja 52 2 2 (ER (c:=Aw) (L:=([(AW.1,AW.2)]:List (Int×Int))) (vals:=[.agg 2 (L1 [.i AW.1,.i AW.2])]) rfl ⟨⟨_,rfl,⟨At,At,trivial⟩⟩,trivial⟩) (ja 48 3 2 (ER (c:=Aw) (L:=([]:List (Int×Int))) (vals:=[]) rfl trivial) (jg (And.intro (And.intro trivial (I6 Aw tree tree.length 2 fun _=>⟨rfl,rfl⟩)) (And.intro (And.intro (Eq.refl 0) (by decide:0=([]:List (Int×Int)).length)) g0)) (ja 50 4 2 (LM (enc:=(MG Aw)) (L:=([]:List (Int×Int))) (L':=tree) rfl rfl fun _ _ _ _=>At) (jg (And.intro (And.intro (And.intro (Eq.refl 0) (Eq.refl 1)) (I6 Aw ([(AW.1,AW.2)]:List (Int×Int)) (([(AW.1,AW.2)]:List (Int×Int)).length) 2 fun _=>⟨rfl,rfl⟩)) (And.intro (And.intro (Eq.refl 0) g1) g2)) (ja 53 5 2 (LM (enc:=(MG Aw)) (L:=(([]:List (Int×Int))++tree)) (L':=([(AW.1,AW.2)]:List (Int×Int))) rfl rfl fun _ _ _ _=>At) (jz 53 5 (jg g3 (jc (fb (Lg A5) (zQ q AW)) (jg (Eq.refl (UW A7 y1 q AW)) (lG (tg:=[([],(UW A7 y1 q AW))]) (AR 12 (AR 10 J2)) [] (AK _ _ ·))))))))))))))))))))))))))))))))))
 case l3 A7 Mh=>
  revert r;apply gO;exact bi 58 (lE (AR 11 (AR 10 J2)) [8] []) (lE (AR 11 (AR 10 J2)) [8] [])
theorem vn {n:Nat} {q:AA} {pos:List Int} {tree:List (Int×Int)} {AW:Int×Int} {r:Bool} (h:jV n q pos tree AW=some r):EQ 7 [.agg 5 (L1 (AC q)),.ints pos,.sl 2 tree.length (AQ Aw tree),.agg 2 (L1 [.i AW.1,.i AW.2])] [] (.bool r) [] true:=by
 refine ot Tryz.func7 fun B N=>?_
 revert r;apply gO;exact cf qA [some (.cells (AC q)),some (.cells [.i AW.1,.i AW.2])] fun _=>bi 16 (lE (AR 12 (AR 11 (AR 10 J2))) [8] []) (cf zBU [some (.cells (AC q)),some (.cells [.i AW.1,.i AW.2])] fun _=>bi 21 (lE (AR 12 (AR 11 (AR 10 J2))) [8] []) (cf Lg [some (.cells (AC q)),some (.cells [.i AW.1,.i AW.2])] fun _=>bi 30 (lE (AR 12 (AR 11 (AR 10 J2))) [8] []) (bi 33 (lE (AR 12 (AR 11 (AR 10 J2))) [8] []) (lG (AR 12 (AR 11 (AR 10 J2))) [0,1] ((vr B N q pos tree AW n) _ _ ·)))))
end Go.Proofs.YtkjbblkieglmlaaGreatDoor
namespace Go.Proofs.YtkjbblkieglmlaaGreatDoor
open Go.RowKit
section
variable {q:AA} {t1 t2 tree:List (Int×Int)} {m:Option (Nat×List Nat)} {pos:List Int} {a d v1:Nat} {e1 o1:List Int} {l1:List Au}
theorem Tk.det (hag: ∀ i,i<t1.length -> i<t2.length -> t1.getD i default=t2.getD i default) (h:Tk q t1 m pos a d e1 v1 l1 o1): ∀ {e2:List Int} {v2:Nat} {l2:List Au} {o2:List Int},Tk q t2 m pos a d e2 v2 l2 o2 -> v1=v2:=by
 induction h with
 | prune AN hk C hP h ih=>
  intro e2 v2 l2 o2 h';cases h' with
  | prune Cz BX C' hP' h'=>
   rw [←hag _ AN Cz] at hP';rw [PR.uniq _ _ hP' hP] at h';exact ih h'
  | split _ Cz BX=>rw [hag _ AN Cz,BX] at hk;exact absurd hk (by simp)
  | dead _ Cz BX=>rw [hag _ AN Cz,BX] at hk;exact absurd hk (by simp)
  | done _ Cz BX=>rw [hag _ AN Cz,BX] at hk;exact absurd hk (by simp)
 | split hp AN hk hc JQ h2 h ih=>
  intro e2 v2 l2 o2 h';cases h' with
  | prune Cz BX=>rw [←hag _ AN Cz,hk] at BX;exact absurd BX (by simp)
  | split _ Cz BX _ _ _ h'=>
   rw [←hag _ AN Cz,hk] at BX;have:=(Prod.mk.inj BX).2;have:=Int.ofNat_inj.1 this;subst this;exact ih h'
  | dead _ Cz BX=>rw [hag _ AN Cz,BX] at hk;exact absurd (congrArg Prod.fst hk) (by simp)
  | done _ Cz BX=>rw [hag _ AN Cz,BX] at hk;exact absurd (congrArg Prod.fst hk) (by simp)
 | dead hp AN hk JQ=>
  intro e2 v2 l2 o2 h';cases h' with
  | prune Cz BX=>rw [←hag _ AN Cz,hk] at BX;exact absurd BX (by simp)
  | split _ Cz BX=>rw [hag _ AN Cz,BX] at hk;exact absurd (congrArg Prod.fst hk) (by simp)
  | dead=>rfl
  | done _ Cz BX=>rfl
 | done hp AN hk hs Ds=>
  intro e2 v2 l2 o2 h';cases h' with
  | prune Cz BX=>rw [←hag _ AN Cz,hk] at BX;exact absurd BX (by simp)
  | split _ Cz BX=>rw [hag _ AN Cz,BX] at hk;exact absurd (congrArg Prod.fst hk) (by simp)
  | dead=>rfl
  | done=>rfl
 | nil=>
  intro e2 v2 l2 o2 h';cases h';rfl
 | cons h h2 ih aK=>
  intro e2 v2 l2 o2 h';cases h' with
  | cons g g2=>
   have:=ih g;subst this;exact aK g2
theorem Tk.pos_len (h:Tk q tree none pos a d e1 v1 l1 o1):0<tree.length:=by
 cases h with
 | prune h=>omega
 | split _ h=>omega
 | dead _ h=>omega
 | done _ h=>omega
theorem iq {l:List Au} {o:List Int} (hF:EM q) (hl:pos.length<=LB) (hv:CM q=true) (hp:posOk q pos=true) (hk:Tk q tree none pos 0 0 (List.replicate tree.length 0) tree.length l o) (hT:t2.length<=65536) (Ak:tree.length≠t2.length) (hag: ∀ i,i<tree.length -> i<t2.length -> tree.getD i default=t2.getD i default): ∃ x,Ev (fun n=>Hl n q pos t2) (x,280):=by
 obtain ⟨⟨l2,o2,c⟩,hr,hP⟩:=lu (tree:=t2) hF hl;rcases hP with ⟨h1,h2,h3,h4⟩ | ⟨_,_,_,_,_,_,Wa⟩
 ·have h4:c=280:=h4 hv hp hT;subst h4
  have h5:l2.length<=65536:=by
   have h2:l2= []:=h2;rw [h2];decide
  exact ⟨_,Z1 hr h5⟩
 ·exact absurd (hk.det hag Wa) Ak
theorem vm (q:AA) (pos:List Int) (tree:List (Int×Int)) (AW:Int×Int) (hF:EM q) (hl:pos.length<=LB):Ev (fun n=>jV n q pos tree AW) true:=by
 have L:(1000000000000:Nat)=BB:=rfl;refine vt (q:=q) (pos:=pos) (tree:=tree) (f:=fun n=>(Hl n q pos tree).bind fun y3=>bif (y3.2 != 0) then some true else bif ((tree.length:Int)==0) then some false else KL q pos tree AW n .l1) (fun n=>rfl) fun _ h400=>?_
 obtain ⟨⟨l,o,c⟩,hr,hP⟩:=lu (tree:=tree) hF hl;rcases hP with ⟨h1,h2,_⟩ | ⟨h1,hv,hp,hT,ho,kY,hk⟩
 ·have h2:l= []:=h2;have h1:c≠0:=h1;refine Ev.bind (Z1 hr (by show l.length<=_;rw [h2];decide)) (Ev.now fun n=>?_)
  show (bif (c != 0) then _ else _)=_
  rw [zE3.2 h1,zAK]
 ·have h1:c=0:=h1;subst h1;have kY:l.length<=tree.length:=kY;have hk:Tk q tree none pos 0 0 (List.replicate tree.length 0) tree.length l o:=hk;have Hx:0<tree.length:=hk.pos_len;refine Ev.bind (Z1 hr (by show l.length<=_;omega)) ?_
  obtain ⟨x1,N1,H1⟩:=iq (t2:=tree.take ((tree.length:Int)-1).toNat) hF hl hv hp hk (by rw [zEZ];omega) (by rw [zEZ];omega) fun i hi EH=>by
   rw [zEZ] at EH;rw [u8,u8,List.getElem?_take_of_lt (by omega)]
  obtain ⟨x2,N2,H2⟩:=iq (t2:=(([]:List (Int×Int))++tree)++[(AW.1,AW.2)]) hF hl hv hp hk (by simp;omega) (by simp) fun i hi EH=>by
   rw [zEI,u8,u8,zAX hi]
  have H1: ∀ n,N1<=n -> Hl n q pos (tree.take ((tree.length:Int)-1).toNat)=some (x1,280):=H1;have H2: ∀ n,N2<=n -> Hl n q pos ((([]:List (Int×Int))++tree)++[(AW.1,AW.2)])=some (x2,280):=H2;refine Ev.eq (g:=fun n=>KL q pos tree AW n .l1) ?_ fun n=>?_
  ·refine Bj.ev ((Bj.oneN (b:=.l2 280) N1 fun n hn=>?_).trans (Bj.oneN (b:=.l3 280 280) N2 fun n hn=>?_)) (Ev.one fun n=>?_)
   ·show Z3 n (KL q pos tree AW n) q pos tree AW=_
    unfold Z3;rw [zAB ⟨A0.2 ⟨by omega,by omega⟩,zER _,by omega,by omega⟩,H1 n hn];rfl
   ·show Z2 n (KL q pos tree AW n) q pos tree AW 280=_
    unfold Z2;rw [zAB ⟨by rw [←L];simp;omega,by simp,by rw [←L];simp;omega,by simp⟩,H2 n hn];rfl
   ·rfl
  ·show (bif ((0:Int) != 0) then _ else bif ((tree.length:Int)==0) then _ else _)=_
   rw [zDr.2 (show (tree.length:Int)≠0 by omega)];rfl
end
end Go.Proofs.YtkjbblkieglmlaaGreatDoor
namespace Go.Proofs.YtkjbblkieglmlaaGreatDoor
open Go.ChangeShapes Go.WideShapes Go.ChangeAt Go.RowKit
def Kx (w:World) (cs:List Value) (l:List DV):Prop:=cs.length=l.length/\ ∀ j,j<l.length -> AM (fun _=>False) w (l.getD j .any) [] (cs.getD j undef)
def Rd (P:Program) (t:TypeId) (m:Nat) {α:Type} (c:α -> List DV):Prop:=(∀ x,(c x).length=m)/\ P.cellsOf t=m/\ ∀ {H:Type} (enc:TypeId×Value -> H) (w:World) (EI:Nat) (cs:List Value) (x:DataW H×List MemPlace),DataW.trod enc P w 0 (fun _=>true) true EI t cs=some x -> (∀ n∈x.1.weights P t,n<=reachBytes) -> ∃ y:α,Kx w cs (c y)
theorem de {H:Type} {P:Program} {e:TypeId}: ∀ {l:List (DataW H)} {d:DataW H} {n:Nat},d∈l -> n∈d.weights P e -> n∈DataW.weightsAll P e l
 | [],_,_,h,_=>by cases h
 | a::l,d,n,h,hn=>by
  unfold DataW.weightsAll;rcases zDu.1 h with rfl | h
  ·exact zDp _ hn
  ·exact zD3 _ (de h hn)
section
variable {P:Program} {t e:TypeId} {m:Nat}
theorem Kx.one {w:World} {v:Value} {d:DV} (h:AM (fun _=>False) w d [] v):Kx w [v] [d]:=⟨rfl,fun j hj=>by
 have:j=0:=by simpa using hj
 subst this;exact h⟩
theorem Kx.app {w:World} {cs EJ:List Value} {l l':List DV} (h:Kx w cs l) (h':Kx w EJ l'):Kx w (cs++EJ) (l++l'):=by
 refine ⟨by simp [h.1,h'.1],fun j hj=>?_⟩;rcases zDj j l.length with hl | hl
 ·have:=h.2 j hl;have hc:j<cs.length:=by rw [h.1];exact hl
  simp only [u8] at this ⊢;rw [zAX hl,zAX hc];exact this
 ·have:=h'.2 (j-l.length) (by simp at hj;omega);simp only [u8] at this ⊢;rw [zAb hl,zAb (by rw [h.1];exact hl),h.1];exact this
theorem Rd.int {k:IntKind} (ht:P.underlying t=some (.int k)) (hc:P.cellsOf t=1):Rd P t 1 (fun n:Int=>[.int k n]):=⟨fun _=>rfl,hc,fun enc w EI cs x h hw=>by
 obtain ⟨n,rfl,_⟩:=DataW.trod_int ht h;exact ⟨n,.one rfl⟩⟩
theorem mr {w:World} {a:Addr} {n:Nat} {cs:List Value} (h:w.cells? 0 a n=some cs):cs.length=n/\ ∀ j,j<n -> w.cell? (a.add j)=some (cs.getD j undef):=by
 unfold World.cells? at h;rw [zAB (zEf _)] at h;have hl:cs.length=n:=by simpa using Lib.mapM_length h
 refine ⟨hl,fun j hj=>?_⟩;obtain ⟨b,h1,h2⟩:=Lib.mapM_at h j j (by simp [hj]);rw [h2,u8,h1];rfl
theorem zDe {w:World} {a:Addr} {v:Value} (h:w.cell? a=some v): ∃ b o,a=⟨b,o,none⟩:=by
 obtain ⟨b,o,r⟩:=a;cases r with
 | none=>exact ⟨b,o,rfl⟩
 | some r=>
  unfold World.cell? at h;split at h
  ·simp at h
  ·cases h
theorem nm (b o x:Nat):(⟨b,o,none⟩:Addr).add x=⟨b,o+x,none⟩:=by
 unfold Addr.add;split
 ·rename_i e;subst e;rfl
 ·rfl
theorem Rd.row {α:Type} [Inhabited α] {c:α -> List DV} (ht:P.underlying t=some (.slice e)) (hb:0<P.bytesOf e) (hm:0<m) (he:Rd P e m c) {H:Type} (enc:TypeId×Value -> H) (w:World) (EI:Nat) (cs:List Value) (x:DataW H×List MemPlace) (h:DataW.trod enc P w 0 (fun _=>true) true EI t cs=some x) (hw: ∀ n∈x.1.weights P t,n<=reachBytes):
 ∃ (L:List α) (a:Option Addr) (cap:Nat),cs= [.slice a L.length cap]/\ L.length<=cap/\ L.length<=LB/\ ∀ i j,i<L.length -> j<m -> ∃ b o u,a=some ⟨b,o,none⟩/\ w.cell? ⟨b,o+(i*m+j),none⟩=some u/\ AM (fun _=>False) w ((c (L.getD i default)).getD j .any) [] u:=by
 rcases Deep.open_slice ht h with ⟨rfl,_⟩ | ⟨a,len,cap,m',n,D,Pl,rfl,_,zm,Lz,CS,hx,S5⟩
 ·exact ⟨[],none,0,rfl,zAm _,zEf _,fun i j hi=>absurd hi (zAf i)⟩
 ·simp only [zEG] at CS;subst CS;subst hx
  have plain:0<len -> ∃ b o,a=⟨b,o,none⟩:=fun h0=>by
   obtain ⟨EJ,h1,_⟩:=S5 0 (by omega);obtain ⟨g1,g2⟩:=mr h1;have g3:=g2 0 (by rw [he.2.1];exact hm);have e0:(a.add (0*P.cellsOf e)).add 0=a:=by simp [Addr.add]
   rw [e0] at g3;exact zDe g3
  have pick: ∀ i,i<len -> ∃ y:α,∀ j,j<m -> ∃ b o u,a=⟨b,o,none⟩/\ w.cell? ⟨b,o+(i*m+j),none⟩=some u/\ AM (fun _=>False) w ((c y).getD j .any) [] u:=fun i hi=>by
   obtain ⟨EJ,h1,h2⟩:=S5 i (by omega)
   obtain ⟨y,h3,h4⟩:=he.2.2 enc w n EJ _ h2 fun k hk=>hw k (by
    simp only [DataW.weights,ht];refine zDt _ (zDp _ (de (d:=D i) ?_ hk));exact zEK.2 ⟨i,zAd.2 hi,rfl⟩)
   obtain ⟨g1,g2⟩:=mr h1;obtain ⟨b,o,rfl⟩:=plain (by omega);refine ⟨y,fun j hj=>?_⟩;have g3:=g2 j (by rw [he.2.1];exact hj);refine ⟨b,o,_,rfl,?_,h4 j (by rw [he.1];exact hj)⟩;rw [←g3,he.2.1,nm,nm,zDy]
  have hL: ∃ L:List α,L.length=len/\ ∀ i,i<len -> ∀ j,j<m -> ∃ b o u,a=⟨b,o,none⟩/\ w.cell? ⟨b,o+(i*m+j),none⟩=some u/\ AM (fun _=>False) w ((c (L.getD i default)).getD j .any) [] u:=by
   refine ⟨(List.range len).map fun i=>if hi:i<len then (pick i hi).choose else default,by simp,fun i hi=>?_⟩
   have:((List.range len).map fun i=>if hi:i<len then (pick i hi).choose else default).getD i default=(pick i hi).choose:=by
    simp [u8,hi]
   rw [this];exact (pick i hi).choose_spec
  obtain ⟨L,rfl,hL⟩:=hL;refine ⟨L,some a,_,rfl,zm,?_,fun i j hi hj=>?_⟩
  ·have hk:=hw ((L.length+(m'-L.length))*P.bytesOf e) (by
    simp only [DataW.weights,ht,zAn,zFI];exact zEF)
   have h1:=Nat.le_mul_of_pos_right (L.length+(m'-L.length)) hb;have h2:=zAk h1 hk;unfold reachBytes at h2;unfold LB;omega
  ·obtain ⟨b,o,u,g1,g2,g3⟩:=hL i hi j hj;exact ⟨b,o,u,by rw [g1],g2,g3⟩
theorem Rd.rows {α:Type} [Inhabited α] {c:α -> List DV} (ht:P.underlying t=some (.slice e)) (hc:P.cellsOf t=1) (hb:0<P.bytesOf e) (hm:0<m) (he:Rd P e m c):Rd P t 1 (fun L:List α=>[.sl m L.length (AQ c L)]):=⟨fun _=>rfl,hc,fun enc w EI cs x h hw=>by
 obtain ⟨L,a,cap,rfl,h1,h2,h3⟩:=Rd.row ht hb hm he enc w EI cs x h hw;refine ⟨L,Kx.one ⟨a,cap,rfl,h1,h2,fun i j hi hj=>?_⟩⟩;obtain ⟨b,o,u,g1,g2,g3⟩:=h3 i j hi hj;exact ⟨b,o,u,g1,fun h=>h,g2,g3⟩⟩
theorem Rd.ints (ht:P.underlying t=some (.slice e)) (hc:P.cellsOf t=1) (hb:0<P.bytesOf e) (he:P.underlying e=some (.int .i64)) (lA:P.cellsOf e=1):Rd P t 1 Be:=⟨fun _=>rfl,hc,fun enc w EI cs x h hw=>by
 obtain ⟨L,a,cap,rfl,h1,h2,h3⟩:=Rd.row ht hb (zEy) (Rd.int he lA) enc w EI cs x h hw;refine ⟨L,.one ⟨a,cap,rfl,h1,h2,fun j hj=>?_⟩⟩;obtain ⟨b,o,u,g1,g2,g3⟩:=h3 j 0 hj zEy;refine ⟨b,o,g1,fun h=>h,?_⟩;have:u= .int .i64 (L.getD j 0):=g3;rw [←this,←g2];simp⟩
def Dk (P:Program):List Field -> Nat -> Nat -> {α:Type} -> (α -> List DV) -> Prop:=fun fs o n {α} c=>∀ (H:Type) (enc:TypeId×Value -> H) (w:World) (EI:Nat) (cs:List Value) (xs:List (DataW H×List MemPlace)),cs.length=n -> (fs.mapM fun f=>DataW.trod enc P w 0 (fun _=>true) true EI f.type ((cs.drop f.offset).take (P.cellsOf f.type)))=some xs -> (∀ k∈DataW.weightsEach P (fs.map (·.type)) (xs.map (·.1)),k<=reachBytes) -> ∃ y:α,Kx w (cs.drop o) (c y)
theorem Dk.nil {o n:Nat} (ho:n=o):Dk P [] o n (fun _:Unit=>[]):=fun _ enc w EI cs xs hl _ _=>⟨(),by rw [List.drop_of_length_le (by omega)];exact ⟨rfl,fun j hj=>absurd hj (zAf j)⟩⟩
theorem Dk.cons {α β:Type} {c:α -> List DV} {c':β -> List DV} {f:Field} {fs:List Field} {o n:Nat} (ho:f.offset=o) (hf:Rd P f.type m c) (hs:Dk P fs (o+m) n c'):Dk P (f::fs) o n (fun x:α×β=>c x.1++c' x.2):=fun _ enc w EI cs xs hl h hw=>by
 rw [List.mapM_cons] at h;obtain ⟨a,ha,h⟩:=Option.bind_eq_some_iff.1 h;obtain ⟨ys,xD,e⟩:=Option.bind_eq_some_iff.1 h;cases e;obtain ⟨y,h1⟩:=hf.2.2 enc w EI _ a ha fun k hk=>hw k (by simp only [zEQ,DataW.weightsEach];exact zDp _ hk)
 obtain ⟨z,h2⟩:=hs _ enc w EI cs ys hl xD fun k hk=>hw k (by simp only [zEQ,DataW.weightsEach];exact zD3 _ hk)
 refine ⟨(y,z),?_⟩
 have:cs.drop o=(cs.drop f.offset).take (P.cellsOf f.type)++cs.drop (o+m):=by
  rw [ho,hf.2.1,←List.drop_drop];exact (zFs m (cs.drop o)).symm
 rw [this];exact h1.app h2
theorem Rd.struct {α β:Type} {c:α -> List DV} {c':β -> List DV} {fs:Array Field} (ht:P.underlying t=some (.struct fs)) (hc:P.cellsOf t=m) (hs:Dk P fs.toList 0 m c) (g:α -> β) (hg: ∀ x,c x=c' (g x)) (hm: ∀ x,(c' x).length=m):Rd P t m c':=⟨hm,hc,fun enc w EI cs x h hw=>by
 cases EI with
 | zero=>simp [DataW.trod] at h
 | succ EI=>
  unfold DataW.trod at h;rw [ht] at h;simp only at h;split at h
  ·rename_i hl;obtain ⟨xs,Se,e⟩:=zFm.1 h;subst e;obtain ⟨y,hy⟩:=hs _ enc w EI cs xs (by rw [hl,hc]) Se fun k hk=>hw k (by simp only [DataW.weights,ht];exact hk)
   exact ⟨g y,by rw [←hg];exact hy⟩
  ·cases h⟩
end
end Go.Proofs.YtkjbblkieglmlaaGreatDoor
namespace Go.Proofs.YtkjbblkieglmlaaGreatDoor
open Go.ChangeShapes Go.WideShapes Go.ChangeAt Go.RowKit
def HT (P:Program) (t:TypeId) {α:Type} (d:α -> DV):Prop:=∀ {H:Type} (enc:TypeId×Value -> H) (w:World) (Dv:Nat) (v:Value) (x:DataW H) (ps:List MemPlace),Value.okWide P w .any Dv t v -> DataW.Trod enc P w 0 (fun _=>true) true t v x ps -> (∀ n∈x.weights P t,n<=reachBytes) -> ∃ y:α,AM (fun _=>False) w (d y) [] v
section
variable {P:Program} {t e:TypeId}
theorem HT.one {α:Type} {c:α -> List DV} (ht:P.underlying t=some (.slice e)) (h:Rd P t 1 c):HT P t (fun x=>(c x).getD 0 .any):=fun enc w Dv v x ps Ds ⟨EI,hx⟩ hw=>by
 obtain ⟨a,len,cap,rfl⟩:=okWide_slice ht Ds;obtain ⟨y,h1,h2⟩:=h.2.2 enc w EI _ _ hx hw;exact ⟨y,by simpa [Value.cells] using h2 0 (by rw [h.1];exact zEy)⟩
theorem HT.agg {α:Type} {m:Nat} {c:α -> List DV} {fs:Array Field} (ht:P.underlying t=some (.struct fs)) (h:Rd P t m c):HT P t (fun x=>.agg m (L1 (c x))):=fun enc w Dv v x ps Ds ⟨EI,hx⟩ hw=>by
 obtain ⟨cs,rfl,DU⟩:=okWide_struct ht Ds;obtain ⟨y,h1,h2⟩:=h.2.2 enc w EI _ _ hx hw;have hm:(c y).length=m:=h.1 y
 have A3:cs.size=m:=by
  have:cs.toList.length=(c y).length:=h1;simpa [hm] using this
 refine ⟨y,cs,rfl,A3,fun j hj=>?_⟩;have:=h2 j (by rw [hm];exact hj);refine ⟨cs[j]'(by omega),by simp [A3,hj],?_⟩
 have e:(Value.agg cs).cells.toList.getD j undef=cs[j]'(by omega):=by
  show cs.toList.getD j undef=_
  simp [u8,A3,hj]
 rw [e] at this;exact this
def Il (P:Program) (ts:List TypeId) {α:Type} (ds:α -> List DV):Prop:=∀ {H:Type} (enc:TypeId×Value -> H) (w:World) (Dv:Nat) (vs:List Value) (xs:List (DataW H)) (ps:List MemPlace),(∀ (j:Nat) t v,ts[j]? =some t -> vs[j]? =some v -> Value.okWide P w .any Dv t v) -> DataW.TrodAll enc P w 0 (fun _=>true) true ts vs xs ps -> (∀ n∈DataW.weightsEach P ts xs,n<=reachBytes) -> ∃ y:α,(ds y).length=vs.length/\ ∀ j,j<vs.length -> AM (fun _=>False) w ((ds y).getD j .any) [] (vs.getD j undef)
theorem Il.nil:Il P [] (fun _:Unit=>[]):=fun enc w Dv vs xs ps _ h _=>by
 obtain ⟨rfl,_,_⟩:=trodAll_nil h;exact ⟨(),rfl,fun j hj=>absurd hj (zAf j)⟩
theorem Il.cons {α β:Type} {d:α -> DV} {ds:β -> List DV} {ts:List TypeId} (h:HT P t d) (hs:Il P ts ds):Il P (t::ts) (fun x:α×β=>d x.1::ds x.2):=fun enc w Dv vs xs ps Ds h0 hw=>by
 obtain ⟨v,Bm,x,dS,p,q,rfl,rfl,rfl,h1,h2⟩:=trodAll_cons h0;obtain ⟨y,hy⟩:=h enc w Dv v x p (Ds 0 t v rfl rfl) h1 fun n hn=>hw n (by simp only [DataW.weightsEach];exact zDp _ hn)
 obtain ⟨z,Sd,xB⟩:=hs enc w Dv Bm dS q (fun j t' v' a b=>Ds (j+1) t' v' (by simpa using a) (by simpa using b)) h2 fun n hn=>hw n (by simp only [DataW.weightsEach];exact zD3 _ hn)
 refine ⟨(y,z),by simp [Sd],fun j hj=>?_⟩;cases j with
 | zero=>exact hy
 | succ j=>exact xB j (by simpa using hj)
theorem dp {H:Type} {enc:TypeId×Value -> H} (hl:laidOutB P=true) {W W':World} (hE:Ao W W'): ∀ {ts:List TypeId} {vs:List Value} {ds:List (DataW H)} {ps:List MemPlace},(∀ t∈ts,P.readableRec t=true/\ t<P.types.size) -> DataW.TrodAll enc P W 0 (fun _=>true) true ts vs ds ps -> (∀ x∈ps,x.block<W.heap.size) -> DataW.TrodAll enc P W' 0 (fun b=>decide (b<W.heap.size)) true ts vs ds ps
 | [],_,_,_,_,h,_=>by
  obtain ⟨rfl,rfl,rfl⟩:=trodAll_nil h;rfl
 | t::ts,_,_,_,hr,h,AN=>by
  obtain ⟨v,Bm,x,dS,p,q,rfl,rfl,rfl,h1,h2⟩:=trodAll_cons h;exact ⟨p,q,Below.trod hl (hr t (by simp)).1 (hr t (by simp)).2 h1 hE fun x hx=>AN x (zDp _ hx),dp hl hE (fun t ht=>hr t (by simp [ht])) h2 fun x hx=>AN x (zD3 _ hx),rfl⟩
theorem tm {H:Type} {enc:TypeId×Value -> H} {f:Func} {s:ChangeSpec} {W W':World} {args:Array Value} {ds gs:List (DataW H)} {OR:List MemPlace} {tb:TypeId} (hl:laidOutB P=true) (hr: ∀ t∈f.params.toList,P.readableRec t=true/\ t<P.types.size) (hE:Ao W W')
 (hW:DataW.Whole enc P f.params.toList s.vars false W args.toList ds gs OR) (hv:s.vars= []) (hs:s.fn H (ds++gs)= { results:=[.lit (.bool true)],args:=ds }) (aX:f.resultTypes= #[tb]) (aT:P.underlying tb=some .bool):
 s.post enc P f false true false false W args (.bool true) W':=by
 have S9:=hW;have AN:=hW.lt;obtain ⟨p,q,hA,hV,rfl,GO,Av⟩:=hW;rw [hv] at hV;obtain ⟨rfl,rfl⟩:=trodVars_none hV;have Ch:=dp hl hE hr hA fun x hx=>AN x (zDp _ hx)
 refine ⟨ds,[],p++[],[],p,[],S9,?_,?_,?_,World.keptBut_mono (fun x hx=>⟨hx,.inr (.inl (by simpa using hx))⟩) (Below.frame hE (· ∈p++[])),fun h=>by cases h⟩
 ·rw [hs,aX];exact trodAll_mk1 (shut_bool aT true)
 ·rw [hs];exact Ch
 ·rw [hv,hs];rfl
theorem vk {H:Type} {enc:TypeId×Value -> H} {Γ:Aq} {mB:Nat} {f:Func} {s:ChangeSpec} {W:World} {Dv:Nat} {args:Array Value} {ds gs:List (DataW H)} {OR:List MemPlace} {tb:TypeId} {α:Type} {dv:α -> List DV} (hl:laidOutB P=true) (hr: ∀ t∈f.params.toList,P.readableRec t=true/\ t<P.types.size)
 (xn:Il P f.params.toList dv) (Ey: ∀ (w:World) (y:α),(∀ j,AM (fun _=>False) w ((dv y).getD j .any) [] (args.getD j undef)) -> ES P Γ mB (dv y) [] (.bool true) [] true)
 (Gc: ∀ (j:Nat) t v,f.params[j]? =some t -> args[j]? =some v -> Value.okWide P W .any Dv t v) (hW:DataW.Whole enc P f.params.toList s.vars false W args.toList ds gs OR) (hv:s.vars= []) (hs:s.fn H (ds++gs)= { results:=[.lit (.bool true)],args:=ds }) (aX:f.resultTypes= #[tb]) (aT:P.underlying tb=some .bool)
 (A3:(DataW.weightsEach P f.params.toList ds).all (· <=reachBytes)=true) (hg:Γ.gi W):Calls P mB args W fun e W'=>∃ v,e= .returned v/\ s.post enc P f false true false false W args v W':=by
 have S9:=hW;obtain ⟨p,q,hA,hV,rfl,GO,Av⟩:=hW
 obtain ⟨y,h1,h2⟩:=xn enc W Dv args.toList ds p (fun j t v a b=>Gc j t v (by simpa using a) (by simpa using b)) hA fun n hn=>by
  have:=zAW.1 A3 n hn;simpa using this
 have Ap:(dv y).length=args.size:=by simpa using h1
 have kI: ∀ j,AM (fun _=>False) W ((dv y).getD j .any) [] (args.getD j undef):=fun j=>by
  rcases zDj j args.size with hj | hj
  ·have:=h2 j (by simpa using hj);simpa [u8,zAc,hj] using this
  ·have:(dv y).getD j .any= .any:=by rw [u8,zEJ (by omega)];rfl
   rw [this];trivial
 refine ((Ey W y kI).2 (fun _=>False) [] W args (Pc (fun b hb=>hb.elim) hg) ⟨Ap,fun i hi=>?_⟩).mono ?_
 ·exact AM.out _ (C6 (fun b hb=>OZ.1 hb) []) (kI i)
 ·rintro e W' ⟨v,rfl,G⟩;obtain ⟨ρ',_,aS,_⟩:=G.ex;have aS:v= .bool true:=aS;subst aS;exact ⟨_,rfl,tm hl hr (G.ext rfl) S9 hv hs aX aT⟩
end
end Go.Proofs.YtkjbblkieglmlaaGreatDoor
namespace Go.Proofs.YtkjbblkieglmlaaGreatDoor
open Go.ChangeShapes Go.WideShapes Go.ChangeAt Go.RowKit
theorem own:ownKnob Tryz.prog.godebug=none:=by kernel_rfl
theorem vw:laidOutB Tryz.prog=true:=by kernel_rfl
theorem zCu:0<Tryz.prog.bytesOf 3:=zD8 (by kernel_rfl)
theorem IE:Rd Tryz.prog 3 1 (fun n:Int=>[.int .i64 n]):=Rd.int Tryz.underlying3 (by kernel_rfl)
theorem Rb:Rd Tryz.prog 22 1 Be:=Rd.ints Tryz.underlying22 (by kernel_rfl) zCu Tryz.underlying3 (by kernel_rfl)
theorem tK:Rd Tryz.prog 23 1 (fun L:List (List Int)=>[.sl 1 L.length (AQ Be L)]):=Rd.rows Tryz.underlying23 (by kernel_rfl) (zD8 (by kernel_rfl)) zEy Rb
set_option maxRecDepth 100000 in
theorem tO:Rd Tryz.prog 63 9 AJ:=by
 refine Rd.struct Tryz.underlying63 (by kernel_rfl)
  (Dk.cons rfl IE<|Dk.cons rfl Rb<|Dk.cons rfl IE<|Dk.cons rfl IE<|Dk.cons rfl IE<|Dk.cons rfl IE<|Dk.cons rfl Rb<|Dk.cons rfl IE<|Dk.cons rfl IE<|Dk.nil rfl)
  (fun x:Int×List Int×Int×Int×Int×Int×List Int×Int×Int×Unit=>(⟨x.1,x.2.1,x.2.2.1,x.2.2.2.1,x.2.2.2.2.1,x.2.2.2.2.2.1,x.2.2.2.2.2.2.1,x.2.2.2.2.2.2.2.1,x.2.2.2.2.2.2.2.2.1⟩:AB)) ?_ (fun _=>rfl)
 intro x;rfl
theorem tN:Rd Tryz.prog 24 1 (fun L:List AB=>[.sl 9 L.length (AQ AJ L)]):=Rd.rows Tryz.underlying24 (by kernel_rfl) (zD8 (by kernel_rfl)) (by decide) tO
set_option maxRecDepth 100000 in
theorem tL:Rd Tryz.prog 26 5 AC:=by
 refine Rd.struct Tryz.underlying26 (by kernel_rfl)
  (Dk.cons rfl IE<|Dk.cons rfl IE<|Dk.cons rfl Rb<|Dk.cons rfl tK<|Dk.cons rfl tN<|Dk.nil rfl)
  (fun x:Int×Int×List Int×List (List Int)×List AB×Unit=>(⟨x.1,x.2.1,x.2.2.1,x.2.2.2.1,x.2.2.2.2.1⟩:AA)) ?_ (fun _=>rfl)
 intro x;rfl
theorem rX:HT Tryz.prog 26 (fun q:AA=>.agg 5 (L1 (AC q))):=HT.agg Tryz.underlying26 tL
theorem ra:HT Tryz.prog 22 (fun l:List Int=>.ints l):=HT.one Tryz.underlying22 Rb
theorem EM.of {M:Nat -> Prop} {w:World} {ρ:List AI} {q:AA} {v:Value} (h:AM M w (.agg 5 (L1 (AC q))) ρ v):EM q:=by
 obtain ⟨cs,_,_,hc⟩:=h
 have row: ∀ {α:Type} [Inhabited α] {m:Nat} {c:α -> List DV} {L:List α} {u:Value},0<m -> AM M w (.sl m L.length (AQ c L)) ρ u -> ∀ x∈L,∀ j,j<m -> ∃ u,AM M w ((c x).getD j .any) [] u:=by
  intro α _ m c L u hm ⟨a,cap,_,_,_,hh⟩ x hx j hj;obtain ⟨i,hi,rfl⟩:=zEN hx;obtain ⟨b,o,u,_,_,_,hr⟩:=hh i j hi hj;refine ⟨u,?_⟩;have e:L.getD i default=L[i]:=by simp [hi]
  have hr:AM M w ((c (L.getD i default)).getD j .any) [] u:=hr;rw [e] at hr;exact hr
 refine ⟨?_,fun r hr=>?_,fun c bI=>?_,fun c bI=>?_⟩
 ·obtain ⟨u,_,h2⟩:=hc 2 (by decide);exact SX h2
 ·obtain ⟨u,_,h3⟩:=hc 3 (by decide);obtain ⟨u,h⟩:=row (c:=Be) (L:=q.nbrs) zEy h3 r hr 0 zEy;exact SX h
 ·obtain ⟨u,_,h4⟩:=hc 4 (by decide);obtain ⟨u,h⟩:=row (c:=AJ) (L:=q.cons) (by decide) h4 c bI 1 (by decide);exact SX h
 ·obtain ⟨u,_,h4⟩:=hc 4 (by decide);obtain ⟨u,h⟩:=row (c:=AJ) (L:=q.cons) (by decide) h4 c bI 6 (by decide);exact SX h
theorem ll:Tryz.prog.globalNamed "math/bits.deBruijn64tab" =some 1:=by kernel_rfl
theorem zA0:(Tryz.prog.globals[1]?).map (·.type)=some 187:=by kernel_rfl
abbrev Z5 {H:Type}:List (String×DataW H):=[("math/bits.deBruijn32tab",Rows.laid_math_bits_deBruijn32tab),("math/bits.deBruijn64tab",Rows.laid_math_bits_deBruijn64tab)]
theorem oa {W:World} (h:laidMetH Tryz.prog Z5 W):Lib.TabIs Tryz.prog W "math/bits.deBruijn64tab" .u8 (Lib.deBruijn64tab.map Int.ofNat):=
 Lib.tabIs_of_head (rest:=[]) ll zA0 Tryz.underlying187 Tryz.underlying5 (by kernel_rfl) (by kernel_rfl) (laidMet.tail (show laidMet Tryz.prog Z5 W from h))
theorem oZ {W:World} (h:laidMetH Tryz.prog Z5 W):GG.gi W:=by
 have T:=oa h;have c: ∀ j,j<64 -> W.cell? ⟨1,j,none⟩=some (.int .u8 ((Lib.deBruijn64tab.map Int.ofNat).getD j 0)):=fun j hj=>T.cell ll j (by rw [zAn];exact hj)
 refine ⟨fun j hj=>?_,?_⟩
 ·have hj:j<64:=hj;rw [c j hj]
  have:(Lib.deBruijn64tab.map Int.ofNat).getD j 0=((Lib.deBruijn64tab.getD j 0:Nat):Int):=by
   have hl:j<Lib.deBruijn64tab.length:=hj;simp [u8,hl]
  rw [this]
 ·have:=zED W _ (c 0 (by decide));exact this
def jU (l:List Nat) (o:Obj):Obj:=match o with
 | .cells _ t frozen=>.cells (l.map fun n=>Value.int .u8 (Int.ofNat n)).toArray t frozen
 | o=>o
noncomputable def Z4 (os:Os):World:=
 { World.holding Tryz.prog os ⟨#[],#[],[]⟩ with heap:=((World.holding Tryz.prog os ⟨#[],#[],[]⟩).heap.modify 0 (jU Lib.deBruijn32tab)).modify 1 (jU Lib.deBruijn64tab) }
def VN:Value:=.agg #[.int .i64 0,.int .i64 0,.slice none 0 0,.slice none 0 0,.slice none 0 0]
end Go.Proofs.YtkjbblkieglmlaaGreatDoor
namespace Go.Proofs.YtkjbblkieglmlaaGreatDoor
open Go.ChangeShapes Go.WideShapes Go.ChangeAt Go.RowKit
theorem gy:Rd Tryz.prog 45 2 Aw:=by
 refine Rd.struct Tryz.underlying45 (by kernel_rfl) (Dk.cons rfl IE<|Dk.cons rfl IE<|Dk.nil rfl) (fun x:Int×Int×Unit=>(x.1,x.2.1)) ?_ (fun _=>rfl);intro x;rfl
theorem tM:Rd Tryz.prog 27 1 (fun L:List (Int×Int)=>[.sl 2 L.length (AQ Aw L)]):=Rd.rows Tryz.underlying27 (by kernel_rfl) (zD8 (by kernel_rfl)) (by decide) gy
theorem rY:HT Tryz.prog 27 (fun L:List (Int×Int)=>.sl 2 L.length (AQ Aw L)):=HT.one Tryz.underlying27 tM
theorem rZ:HT Tryz.prog 45 (fun x:Int×Int=>.agg 2 (L1 (Aw x))):=HT.agg Tryz.underlying45 gy
end Go.Proofs.YtkjbblkieglmlaaGreatDoor
