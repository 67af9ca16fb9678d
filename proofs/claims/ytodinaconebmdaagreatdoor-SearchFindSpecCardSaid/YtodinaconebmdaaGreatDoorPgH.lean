/- Part 8 of 8 of what the proofs of these laws stand on. -/
import Derived.Test.YtodinaconebmdaaGreatDoorPgG
import Derived.Test.YtodinaconebmdaaGreatDoorRows
import Derived.ProofKit
import Derived.OpenShut
import Derived.Deep.DeepHandedRow
import Derived.Lib.LaidTab
import Derived.Deep.Slices
import Derived.Stop.LaidErr
import Derived.Test.YtodinaconebmdaaGreatDoorCards
import Derived.Test.YtodinaconebmdaaGreatDoorTie
set_option linter.all false
namespace Go.Proofs.YtodinaconebmdaaGreatDoor
open Go.RowKit
abbrev zPl:=@Nat.zero_lt_one
abbrev zPw:=@List.mem_append_left
section
open Go.ChangeShapes Go.WideShapes Go.ChangeAt
def NR (w:World)(cs:List Value)(l:List DV):Prop:=cs.length=l.length/\ ∀ j,j<l.length -> AI (λ_=>False) w (l.getD j .any) [] (cs.getD j undef)
def Rd (P:Program)(t:TypeId)(m:Nat){α:Type}(c:α -> List DV):Prop:=(∀ x,(c x).length=m)/\ P.cellsOf t=m/\ ∀ {H:Type} (enc:TypeId×Value -> H) (w:World) (fuel:Nat) (cs:List Value) (x:DataW H×List MemPlace),DataW.trod enc P w 0 (λ_=>true) true fuel t cs=some x -> (∀ n∈x.1.weights P t,n<=reachBytes) -> ∃ y:α,NR w cs (c y)
def pg {H:Type}{P:Program}{e:TypeId}: ∀ {l:List (DataW H)} {d:DataW H} {n:Nat},d∈l -> n∈d.weights P e -> n∈DataW.weightsAll P e l
 | [],_,_,h,_=>by cases h
 | a::l,d,n,h,u=>by
  unfold DataW.weightsAll;rcases zKP.1 h with rfl | h
  ·exact zPw _ u
  ·exact zMH _ (pg h u)
section
variable {P:Program} {t e:TypeId} {m:Nat}
variable {v:Value}{w:World}
theorem NR.one {d:DV}(h:AI (λ_=>False) w d [] v):NR w [v] [d]:=⟨rfl,λj hj=>by
 grind⟩
variable {cs:List Value}
theorem NR.app {v:List Value}{l l':List DV}(h:NR w cs l)(h':NR w v l'):NR w (cs++v) (l++l'):=by
 refine ⟨by simp [h.1,h'.1],λj i=>?_⟩;rcases zKL j l.length with hl | hl
 ·have:=h.2 j hl;have hc:j<cs.length:=by rw [h.1];exact hl
  grind
 ·have:=h'.2 (j-l.length) (by simp at i;omega);simp only [zBS] at this ⊢;rw [zJx hl,zJx (by rw [h.1];exact hl),h.1];exact this
theorem Rd.int {k:IntKind}(V:P.underlying t=some (.int k))(a:P.cellsOf t=1):Rd P t 1 (λn:Int=>[.int k n]):=⟨λ_=>rfl,a,λenc w fuel cs x h hw=>by
 obtain ⟨n,rfl,_⟩:=DataW.trod_int V h;exact ⟨n,.one rfl⟩⟩
variable {n:Nat}{a:Addr}
theorem zw (h:w.cells? 0 a n=some cs):cs.length=n/\ ∀ j,j<n -> w.cell? (a.add j)=some (cs.getD j undef):=by
 unfold World.cells? at h;rw [zAE (zJs _)] at h;have o:cs.length=n:=by simpa using Lib.mapM_length h
 refine ⟨o,λj i=>?_⟩;obtain ⟨b,h1,h2⟩:=Lib.mapM_at h j j (by simp [i])
 grind
theorem zPZ (h:w.cell? a=some v): ∃ b o,a=⟨b,o,none⟩:=by
 obtain ⟨b,o,r⟩:=a;cases r with
 | none=>exact ⟨b,o,rfl⟩
 | some r=>
  grind [World.cell?]
theorem zAu (b o x:Nat):(⟨b,o,none⟩:Addr).add x=⟨b,o+x,none⟩:=by
 grind [Addr.add]
variable {α:Type}
theorem Rd.row [Inhabited α] {c:α -> List DV} (V:P.underlying t=some (.slice e)) (z:0<P.bytesOf e) (A:0<m) (M:Rd P e m c) {H:Type} (enc:TypeId×Value -> H) (w:World) (fuel:Nat) (cs:List Value) (x:DataW H×List MemPlace) (h:DataW.trod enc P w 0 (λ_=>true) true fuel t cs=some x) (l: ∀ n∈x.1.weights P t,n<=reachBytes):
 ∃ (L:List α) (a:Option Addr) (cap:Nat),cs= [.slice a L.length cap]/\ L.length<=cap/\ L.length<=LB/\ ∀ i j,i<L.length -> j<m -> ∃ b o u,a=some ⟨b,o,none⟩/\ w.cell? ⟨b,o+(i*m+j),none⟩=some u/\ AI (λ_=>False) w ((c (L.getD i default)).getD j .any) [] u:=by
 rcases Deep.open_slice V h with ⟨rfl,_⟩ | ⟨a,len,cap,p,n,D,Pl,rfl,_,X,Qy,E,B,q⟩
 ·exact ⟨[],none,0,rfl,zBT _,zJs _,λi j hi=>absurd hi (zA6 i)⟩
 ·simp only [zL0] at E;subst E;subst B
  have plain:0<len -> ∃ b o,a=⟨b,o,none⟩:=λh0=>by
   obtain ⟨v,f,_⟩:=q 0 Z2;obtain ⟨C,r⟩:=zw f;have R:=r 0 (by rw [M.2.1];exact A)
   grind [Addr.add,zPZ]
  have F: ∀ i,i<len -> ∃ y:α,∀ j,j<m -> ∃ b o u,a=⟨b,o,none⟩/\ w.cell? ⟨b,o+(i*m+j),none⟩=some u/\ AI (λ_=>False) w ((c y).getD j .any) [] u:=λi hi=>by
   obtain ⟨v,f,G⟩:=q i Z2
   obtain ⟨y,h3,I⟩:=M.2.2 enc w n v _ G λk hk=>l k (by
    simp only [DataW.weights,V];refine zKA _ (zPw _ (pg (d:=D i) ?_ hk))
    grind)
   obtain ⟨C,r⟩:=zw f;obtain ⟨b,o,rfl⟩:=plain Z2;refine ⟨y,λj g=>?_⟩;have R:=r j (by rw [M.2.1];exact g);refine ⟨b,o,_,rfl,?_,I j (by rw [M.1];exact g)⟩;rw [←R,M.2.1,zAu,zAu,zQP]
  have s: ∃ L:List α,L.length=len/\ ∀ i,i<len -> ∀ j,j<m -> ∃ b o u,a=⟨b,o,none⟩/\ w.cell? ⟨b,o+(i*m+j),none⟩=some u/\ AI (λ_=>False) w ((c (L.getD i default)).getD j .any) [] u:=by
   refine ⟨(List.range len).map λi=>if hi:i<len then (F i hi).choose else default,Z3,λi hi=>?_⟩
   grind
  obtain ⟨L,rfl,s⟩:=s;refine ⟨L,some a,_,rfl,X,?_,λi j hi g=>?_⟩
  ·have hk:=l ((L.length+(p-L.length))*P.bytesOf e) (by
    grind [DataW.weights])
   have f:=Nat.le_mul_of_pos_right (L.length+(p-L.length)) z
   grind [reachBytes,LB]
  grind
theorem Rd.rows [Inhabited α] {c:α -> List DV} (V:P.underlying t=some (.slice e)) (n:P.cellsOf t=1) (b:0<P.bytesOf e) (z:0<m) (M:Rd P e m c):Rd P t 1 (λL:List α=>[.sl m L.length (AO c L)]):=⟨λ_=>rfl,n,λenc w fuel cs x h X=>by
 obtain ⟨L,a,cap,rfl,d,f,h3⟩:=Rd.row V b z M enc w fuel cs x h X;refine ⟨L,NR.one ⟨a,cap,rfl,d,f,λi j hi hj=>?_⟩⟩
 grind⟩
def Rd.ints (V:P.underlying t=some (.slice e))(n:P.cellsOf t=1)(c:0<P.bytesOf e)(M:P.underlying e=some (.int .i64))(Y:P.cellsOf e=1):Rd P t 1 AW:=⟨λ_=>rfl,n,λenc w fuel cs x h X=>by
 obtain ⟨L,a,cap,rfl,d,f,g⟩:=Rd.row V c (zPl) (Rd.int M Y) enc w fuel cs x h X;refine ⟨L,.one ⟨a,cap,rfl,d,f,λj i=>?_⟩⟩;obtain ⟨b,o,u,p,r,R⟩:=g j 0 i zPl;refine ⟨b,o,p,λh=>h,?_⟩;have:u= .int .i64 (L.getD j 0):=R;rw [←this,←r];simp⟩
def FC (P:Program):List Field -> Nat -> Nat -> {α:Type} -> (α -> List DV) -> Prop:=λz o n {α} c=>∀ (H:Type) (enc:TypeId×Value -> H) (w:World) (fuel:Nat) (cs:List Value) (xs:List (DataW H×List MemPlace)),cs.length=n -> (z.mapM λf=>DataW.trod enc P w 0 (λ_=>true) true fuel f.type ((cs.drop f.offset).take (P.cellsOf f.type)))=some xs -> (∀ k∈DataW.weightsEach P (z.map (·.type)) (xs.map (·.1)),k<=reachBytes) -> ∃ y:α,NR w (cs.drop o) (c y)
variable {o:Nat}
def FC.nil (ho:n=o):FC P [] o n (λ_:Unit=>[]):=λ_ enc w fuel cs xs hl _ _=>⟨(),by rw [List.drop_of_length_le Z2];exact ⟨rfl,λj i=>absurd i (zA6 j)⟩⟩
variable {β:Type}
theorem FC.cons {c:α -> List DV}{u:β -> List DV}{f:Field}{b:List Field}(d:f.offset=o)(O:Rd P f.type m c)(l:FC P b (o+m) n u):FC P (f::b) o n (λx:α×β=>c x.1++u x.2):=λ_ enc w fuel cs xs g h X=>by
 rw [List.mapM_cons] at h;obtain ⟨a,K,h⟩:=Option.bind_eq_some_iff.1 h;obtain ⟨ys,Z,e⟩:=Option.bind_eq_some_iff.1 h;cases e;obtain ⟨y,i⟩:=O.2.2 enc w fuel _ a K λk hk=>X k (by grind [DataW.weightsEach])
 obtain ⟨z,j⟩:=l _ enc w fuel cs ys g Z λk hk=>X k (by grind [DataW.weightsEach])
 refine ⟨(y,z),?_⟩
 have:cs.drop o=(cs.drop f.offset).take (P.cellsOf f.type)++cs.drop (o+m):=by
  rw [d,O.2.1,←List.drop_drop]
  grind [List.take_append_drop]
 rw [this];exact i.app j
theorem Rd.struct {c:α -> List DV}{u:β -> List DV}{z:Array Field}(V:P.underlying t=some (.struct z))(n:P.cellsOf t=m)(l:FC P z.toList 0 m c)(g:α -> β)(hg: ∀ x,c x=u (g x))(a: ∀ x,(u x).length=m):Rd P t m u:=⟨a,n,λenc w fuel cs x h X=>by
 cases fuel with
 | zero=>simp [DataW.trod] at h
 | succ fuel=>
  unfold DataW.trod at h;rw [V] at h;simp only at h;split at h
  ·rename_i o;obtain ⟨xs,D,e⟩:=zLX.1 h;subst e;obtain ⟨y,hy⟩:=l _ enc w fuel cs xs (by rw [o,n]) D λk hk=>X k (by simp only [DataW.weights,V];exact hk)
   grind
  ·cases h⟩
end
end
abbrev zNf:=@Go.ChangeShapes.trodAll_cons
section
open Go.ChangeShapes Go.WideShapes Go.ChangeAt
def Iv (P:Program)(t:TypeId){α:Type}(d:α -> DV):Prop:=∀ {H:Type} (enc:TypeId×Value -> H) (w:World) (B:Nat) (v:Value) (x:DataW H) (V:List MemPlace),Value.okWide P w .any B t v -> DataW.Trod enc P w 0 (λ_=>true) true t v x V -> (∀ n∈x.weights P t,n<=reachBytes) -> ∃ y:α,AI (λ_=>False) w (d y) [] v
section
variable {P:Program} {t e:TypeId}
theorem Iv.int {k:IntKind}(V:P.underlying t=some (.int k)):Iv P t (λn:Int=>.int k n):=λenc w DP v x ps a _ _=>by
 obtain ⟨n,rfl⟩:=okWide_int V a;exact ⟨n,rfl⟩
variable {α:Type}
def Iv.one {c:α -> List DV}(V:P.underlying t=some (.slice e))(h:Rd P t 1 c):Iv P t (λx=>(c x).getD 0 .any):=λenc w DP v x ps b ⟨fuel,d⟩ X=>by
 obtain ⟨a,len,cap,rfl⟩:=okWide_slice V b;obtain ⟨y,h1,f⟩:=h.2.2 enc w fuel _ _ d X;exact ⟨y,by simpa [Value.cells] using f 0 (by rw [h.1];exact zPl)⟩
theorem Iv.agg {m:Nat}{c:α -> List DV}{a:Array Field}(V:P.underlying t=some (.struct a))(h:Rd P t m c):Iv P t (λx=>.agg m (L1 (c x))):=λenc w DP v x ps b ⟨fuel,d⟩ X=>by
 obtain ⟨cs,rfl,Ed⟩:=okWide_struct V b;obtain ⟨y,g,k⟩:=h.2.2 enc w fuel _ _ d X;have z:(c y).length=m:=h.1 y
 have f:cs.size=m:=by
  have:cs.toList.length=(c y).length:=g;simpa [z] using this
 refine ⟨y,cs,rfl,f,λj i=>?_⟩;have:=k j (by rw [z];exact i);refine ⟨cs[j]'Z2,by simp [f,i],?_⟩
 have e:(Value.agg cs).cells.toList.getD j undef=cs[j]'Z2:=by
  show cs.toList.getD j undef=_
  grind
 rw [e] at this;exact this
def Hv (P:Program)(a:List TypeId){α:Type}(ds:α -> List DV):Prop:=∀ {H:Type} (enc:TypeId×Value -> H) (w:World) (B:Nat) (vs:List Value) (xs:List (DataW H)) (V:List MemPlace),(∀ (j:Nat) t v,a[j]? =some t -> vs[j]? =some v -> Value.okWide P w .any B t v) -> DataW.TrodAll enc P w 0 (λ_=>true) true a vs xs V -> (∀ n∈DataW.weightsEach P a xs,n<=reachBytes) -> ∃ y:α,(ds y).length=vs.length/\ ∀ j,j<vs.length -> AI (λ_=>False) w ((ds y).getD j .any) [] (vs.getD j undef)
theorem Hv.nil:Hv P [] (λ_:Unit=>[]):=λenc w DP vs xs ps _ h _=>by
 obtain ⟨rfl,_,_⟩:=trodAll_nil h
 simp_all
theorem Hv.cons {β:Type}{d:α -> DV}{ds:β -> List DV}{e:List TypeId}(h:Iv P t d)(l:Hv P e ds):Hv P (t::e) (λx:α×β=>d x.1::ds x.2):=λenc w B vs xs ps f h0 X=>by
 obtain ⟨v,g,x,u,p,q,rfl,rfl,rfl,i,k⟩:=zNf h0;obtain ⟨y,hy⟩:=h enc w B v x p (f 0 t v rfl rfl) i λn m=>X n (by grind [DataW.weightsEach])
 obtain ⟨z,c,hz2⟩:=l enc w B g u q (λj T o a b=>f (j+1) T o (by simpa using a) (by simpa using b)) k λn m=>X n (by grind [DataW.weightsEach])
 refine ⟨(y,z),by simp [c],λj hj=>?_⟩
 grind
variable {W:World}{H:Type}
def p4 {enc:TypeId×Value -> H}(o:laidOutB P=true){c:World}(e:Az W c): ∀ {a:List TypeId} {vs:List Value} {ds:List (DataW H)} {V:List MemPlace},(∀ t∈a,P.readableRec t=true/\ t<P.types.size) -> DataW.TrodAll enc P W 0 (λ_=>true) true a vs ds V -> (∀ x∈V,x.block<W.heap.size) -> DataW.TrodAll enc P c 0 (λb=>decide (b<W.heap.size)) true a vs ds V
 | [],_,_,_,_,h,_=>by
  obtain ⟨rfl,rfl,rfl⟩:=trodAll_nil h;rfl
 | t::a,_,_,_,j,h,A=>by
  obtain ⟨v,Bv,x,pO,p,q,rfl,rfl,rfl,f,g⟩:=zNf h;exact ⟨p,q,Below.trod o (j t Z3).1 (j t Z3).2 f e λx d=>A x (zPw _ d),p4 o e (λt i=>j t (by simp [i])) g λx d=>A x (zMH _ d),rfl⟩
variable {tb:TypeId}{J:List MemPlace}{args:Array Value}{s:ChangeSpec}{f:Func}
def zHG {enc:TypeId×Value -> H}{a:World}{ds gs:List (DataW H)}(o:laidOutB P=true)(j: ∀ t∈f.params.toList,P.readableRec t=true/\ t<P.types.size)(b:Az W a) 
 (A:DataW.Whole enc P f.params.toList s.vars false W args.toList ds gs J) (c:s.vars= []) (l:s.fn H (ds++gs)= { results:=[.lit (.bool true)],args:=ds }) (e:f.resultTypes= #[tb]) (g:P.underlying tb=some .bool):
 s.post enc P f false true false false W args (.bool true) a:=by
 have U:=A;have i:=A.lt;obtain ⟨p,q,E,w,rfl,HB,A8⟩:=A;rw [c] at w;obtain ⟨rfl,rfl⟩:=trodVars_none w;have F:=p4 o b j E λx d=>i x (zPw _ d)
 refine ⟨ds,[],p++[],[],p,[],U,?_,?_,?_,World.keptBut_mono (λx d=>⟨d,.inr (.inl (by simpa using d))⟩) (Below.frame b (· ∈p++[])),λh=>by cases h⟩
 ·rw [l,e];exact trodAll_mk1 (shut_bool g true)
 ·rw [l];exact F
 ·rw [c,l];rfl
theorem wa {enc:TypeId×Value -> H}{Γ:Ay}{h:Nat}{B:Nat}{ds gs:List (DataW H)}{dv:α -> List DV}(o:laidOutB P=true)(m: ∀ t∈f.params.toList,P.readableRec t=true/\ t<P.types.size) 
 (d:Hv P f.params.toList dv) (r: ∀ (w:World) (y:α),(∀ j,AI (λ_=>False) w ((dv y).getD j .any) [] (args.getD j undef)) -> ES P Γ h (dv y) [] (.bool true) [] true)
 (u: ∀ (j:Nat) t v,f.params[j]? =some t -> args[j]? =some v -> Value.okWide P W .any B t v) (A:DataW.Whole enc P f.params.toList s.vars false W args.toList ds gs J) (x:s.vars= []) (z:s.fn H (ds++gs)= { results:=[.lit (.bool true)],args:=ds }) (C:f.resultTypes= #[tb]) (D:P.underlying tb=some .bool)
 (BR:(DataW.weightsEach P f.params.toList ds).all (· <=reachBytes)=true) (E:Γ.gi W):Calls P h args W λe k=>∃ v,e= .returned v/\ s.post enc P f false true false false W args v k:=by
 have U:=A;obtain ⟨p,q,F,hV,rfl,HB,A8⟩:=A
 obtain ⟨y,I,h2⟩:=d enc W B args.toList ds p (λj t v a b=>u j t v (by simpa using a) (by simpa using b)) F λn hn=>by
  grind
 have K:(dv y).length=args.size:=by simpa using I
 have l: ∀ j,AI (λ_=>False) W ((dv y).getD j .any) [] (args.getD j undef):=λj=>by
  rcases zKL j args.size with hj | hj
  ·simp_all
  ·have:(dv y).getD j .any= .any:=Z4
   rw [this];trivial
 refine ((r W y l).2 (λ_=>False) [] W args (Tj (λb c=>c.elim) E) ⟨K,λi hi=>?_⟩).mono ?_
 ·exact AI.out _ (DK (λb c=>Rg.1 c) []) (l i)
 ·rintro e k ⟨v,rfl,G⟩;obtain ⟨ρ',_,g,_⟩:=G.ex;have g:v= .bool true:=g;subst g;exact ⟨_,rfl,zHG o m (G.ext rfl) U x z C D⟩
end
end
section
open Go.ChangeShapes Go.WideShapes Go.ChangeAt
def own:ownKnob Tryz.prog.godebug=none:=Z5
def we:laidOutB Tryz.prog=true:=Z5
def zOg:0<Tryz.prog.bytesOf 3:=zJr Z5
def ML:Rd Tryz.prog 3 1 (λn:Int=>[.int .i64 n]):=Rd.int Tryz.underlying3 Z5
def Vp:Rd Tryz.prog 22 1 AW:=Rd.ints Tryz.underlying22 Z5 zOg Tryz.underlying3 Z5
def zFj:Rd Tryz.prog 23 1 (λL:List Ξ=>[.sl 1 L.length (AO AW L)]):=Rd.rows Tryz.underlying23 Z5 (zJr Z5) zPl Vp
set_option maxRecDepth 100000 in
def zFm:Rd Tryz.prog 53 9 AX:=by
 refine Rd.struct Tryz.underlying53 Z5
  (FC.cons rfl ML<|FC.cons rfl Vp<|FC.cons rfl ML<|FC.cons rfl ML<|FC.cons rfl ML<|FC.cons rfl ML<|FC.cons rfl Vp<|FC.cons rfl ML<|FC.cons rfl ML<|FC.nil rfl)
  (λx:Int×Ξ×Int×Int×Int×Int×Ξ×Int×Int×Unit=>(⟨x.1,x.2.1,x.2.2.1,x.2.2.2.1,x.2.2.2.2.1,x.2.2.2.2.2.1,x.2.2.2.2.2.2.1,x.2.2.2.2.2.2.2.1,x.2.2.2.2.2.2.2.2.1⟩:AC)) ?_ (λ_=>rfl)
 intro x;rfl
def zFl:Rd Tryz.prog 24 1 (λL:List AC=>[.sl 9 L.length (AO AX L)]):=Rd.rows Tryz.underlying24 Z5 (zJr Z5) Z6 zFm
set_option maxRecDepth 100000 in
def zFk:Rd Tryz.prog 26 5 AE:=by
 refine Rd.struct Tryz.underlying26 Z5
  (FC.cons rfl ML<|FC.cons rfl ML<|FC.cons rfl Vp<|FC.cons rfl zFj<|FC.cons rfl zFl<|FC.nil rfl)
  (λx:Int×Int×Ξ×List Ξ×List AC×Unit=>(⟨x.1,x.2.1,x.2.2.1,x.2.2.2.1,x.2.2.2.2.1⟩:AA)) ?_ (λ_=>rfl)
 intro x;rfl
def sV:Iv Tryz.prog 26 (λq:AA=>.agg 5 (L1 (AE q))):=Iv.agg Tryz.underlying26 zFk
def ic:Iv Tryz.prog 3 (λn:Int=>.int .i64 n):=Iv.int Tryz.underlying3
def sW:Iv Tryz.prog 22 (λl:Ξ=>.ints l):=Iv.one Tryz.underlying22 Vp
theorem Cm.of {M:Ψ}{w:World}{ρ:List AK}{q:AA}{v:Value}(h:AI M w (.agg 5 (L1 (AE q))) ρ v):Cm q:=by
 obtain ⟨cs,_,_,n⟩:=h
 have row: ∀ {α:Type} [Inhabited α] {m:Nat} {c:α -> List DV} {L:List α} {u:Value},0<m -> AI M w (.sl m L.length (AO c L)) ρ u -> ∀ x∈L,∀ j,j<m -> ∃ u,AI M w ((c x).getD j .any) [] u:=by
  intro α _ m c L u hm ⟨a,cap,_,_,_,W⟩ x g j k;obtain ⟨i,hi,rfl⟩:=zJ3 g;obtain ⟨b,o,u,_,_,_,d⟩:=W i j hi k;refine ⟨u,?_⟩;have e:L.getD i default=L[i]:=by simp [hi]
  have d:AI M w ((c (L.getD i default)).getD j .any) [] u:=d;rw [e] at d;exact d
 refine ⟨?_,λr d=>?_,λc f=>?_,λc f=>?_⟩
 ·obtain ⟨u,_,l⟩:=n 2 Z6;exact TV l
 ·obtain ⟨u,_,p⟩:=n 3 Z6;obtain ⟨u,h⟩:=row (c:=AW) (L:=q.nb) zPl p r d 0 zPl;exact TV h
 ·obtain ⟨u,_,A⟩:=n 4 Z6;obtain ⟨u,h⟩:=row (c:=AX) (L:=q.cons) Z6 A c f 1 Z6;exact TV h
 ·obtain ⟨u,_,A⟩:=n 4 Z6;obtain ⟨u,h⟩:=row (c:=AX) (L:=q.cons) Z6 A c f 6 Z6;exact TV h
def ye:Tryz.prog.globalNamed "math/bits.deBruijn64tab" =some 1:=Z5
def zMp:(Tryz.prog.globals[1]?).map (·.type)=some 194:=Z5
abbrev kf {H:Type}:List (String×DataW H):=[("math/bits.deBruijn32tab",Rows.laid_math_bits_deBruijn32tab),("math/bits.deBruijn64tab",Rows.laid_math_bits_deBruijn64tab)]
variable {W:World}
def zBq (h:laidMetH Tryz.prog kf W):Lib.TabIs Tryz.prog W "math/bits.deBruijn64tab" .u8 (Lib.deBruijn64tab.map Int.ofNat):=
 Lib.tabIs_of_head (rest:=[]) ye zMp Tryz.underlying194 Tryz.underlying5 Z5 Z5 (laidMet.tail (show laidMet Tryz.prog kf W from h))
def qU (h:laidMetH Tryz.prog kf W):GG.gi W:=by
 have T:=zBq h;have c: ∀ j,j<64 -> W.cell? ⟨1,j,none⟩=some (.int .u8 ((Lib.deBruijn64tab.map Int.ofNat).getD j 0)):=λj i=>T.cell ye j (by rw [zJu];exact i)
 refine ⟨λj i=>?_,?_⟩
 ·have i:j<64:=i;rw [c j i]
  have:(Lib.deBruijn64tab.map Int.ofNat).getD j 0=((Lib.deBruijn64tab.getD j 0:Nat):Int):=by
   have o:j<Lib.deBruijn64tab.length:=i;simp [zBS,o]
  rw [this]
 ·have:=zKN W _ (c 0 Z6);exact this
def wZ (l:Θ)(o:Obj):Obj:=match o with
 | .cells _ t frozen=>.cells (l.map λn=>Value.int .u8 (Int.ofNat n)).toArray t frozen
 | o=>o
noncomputable def TP (os:Os):World:= { World.holding Tryz.prog os ⟨#[],#[],[]⟩ with heap:=((World.holding Tryz.prog os ⟨#[],#[],[]⟩).heap.modify 0 (wZ Lib.deBruijn32tab)).modify 1 (wZ Lib.deBruijn64tab) }
def OH:Value:=.agg #[.int .i64 0,.int .i64 0,.slice none 0 0,.slice none 0 0,.slice none 0 0]
end
section
open Go.ChangeShapes Go.WideShapes Go.ChangeAt
structure NQ (q:AA):Prop where
 nb:q.nb.length<=LB
 cons:q.cons.length<=LB
theorem NQ.of {M:Ψ}{w:World}{ρ:List AK}{q:AA}{v:Value}(h:AI M w (.agg 5 (L1 (AE q))) ρ v):NQ q:=by
 obtain ⟨cs,_,_,n⟩:=h;have row: ∀ {m k:Nat} {f:Nat -> Nat -> DV} {u:Value},AI M w (.sl m k f) ρ u -> k<=LB:=λ⟨_,_,_,_,h,_⟩=>h
 obtain ⟨_,_,a⟩:=n 3 Z6;obtain ⟨_,_,A⟩:=n 4 Z6;exact ⟨row a,row A⟩
end
section
variable {q:AA}
theorem na (S:Cm q)(a:NQ q): ∀ (k j:Nat) (x:Int),j+k=q.cons.length -> 0<=x -> x<=562949953421312 -> ∃ b,Ev (λn=>Gm q n (.l2 x (j:Int))) b/\ (b=true -> q.ce<=16/\ q.sy<=4)
 | 0,j,x,e,h0,c=>by
  refine ⟨decide (x<200)&&(decide (q.ce<=16)&&decide (q.sy<=4)),Ev.one λn=>?_,λh=>?_⟩
  ·grind [RA,Gm]
  grind
 | k+1,j,x,e,h0,c=>by
  have hj:j<q.cons.length:=Z2
  have hb:LB=140737488355328:=rfl;have hc:=a.cons
  have z:q.cons.getD j default∈q.cons:=by
   grind
  have c1:=S.ce _ z;have c2:=S.ru _ z
  by_cases d:x<200
  ·obtain ⟨b,g,O⟩:=na S a k (j+1) (x+((((q.cons.getD j default).ce.length:Nat):Int)+(((q.cons.getD j default).ru.length:Nat):Int))) Z2 Z2 Z2
   by_cases f:(q.cons.getD j default).kind=5/\ 9<(q.cons.getD j default).ce.length
   ·refine ⟨false,Ev.one λn=>?_,λh=>by cases h⟩
    show RA n (Gm q n) q x (j:Int)=_
    unfold RA;rw [zAC Z2,zAG,zAC d,zAG];simp only [u8];rw [zAE (by grind [Aa]),show ((q.cons.getD j default).kind==5)=true from zH2.2 f.1,zAG,zAC Z2,zAG]
   ·refine ⟨b,AV.ev (m:=Gm q) (AV.one λn=>?_) g,O⟩
    show RA n (Gm q n) q x (j:Int)=_
    unfold RA;rw [zAE (by grind [Aa])];simp only [zAE (show AG ((j:Int)+1) from Aa.2 ⟨Z2,Z2⟩)]
    grind
  simp_all [Ev.one,RA,Gm,zAF]
theorem yx (S:Cm q)(a:NQ q): ∀ (k j:Nat) (x:Int),j+k=q.nb.length -> 0<=x -> x<=562949953421312 -> ∃ b,Ev (λn=>Gm q n (.l1 x (j:Int))) b/\ (b=true -> q.ce<=16/\ q.sy<=4)
 | 0,j,x,e,h0,c=>by
  obtain ⟨b,g,O⟩:=na S a q.cons.length 0 x Z2 h0 c;refine ⟨b,AV.ev (m:=Gm q) (AV.one λn=>?_) g,O⟩
  simp_all [Xo,Gm]
 | k+1,j,x,e,h0,c=>by
  have hb:LB=140737488355328:=rfl;have hc:=a.nb
  have z:q.nb.getD j []∈q.nb:=by
   grind
  have c1:=S.nb _ z
  by_cases d:x<200
  ·obtain ⟨b,g,O⟩:=yx S a k (j+1) (x+(((q.nb.getD j []).length:Nat):Int)) Z2 Z2 Z2;refine ⟨b,AV.ev (m:=Gm q) (AV.one λn=>?_) g,O⟩
   show Xo n (Gm q n) q x (j:Int)=_
   unfold Xo;rw [zAC Z2,zAG,zAC d,zAG];simp only [u8];rw [zAE (by grind [Aa]),show ((j+1:Nat):Int)=(j:Int)+1 by omega]
  ·obtain ⟨b,g,O⟩:=na S a q.cons.length 0 x Z2 h0 c;refine ⟨b,AV.ev (m:=Gm q) (AV.one λn=>?_) g,O⟩
   grind [Xo,Gm]
def zB (S:Cm q)(a:NQ q): ∃ b,Ev (λn=>Xq n q) b/\ (b=true -> q.ce<=16/\ q.sy<=4):=by
 have hb:LB=140737488355328:=rfl;have c1:=S.va;have c2:=a.nb;have c3:=a.cons;obtain ⟨b,g,O⟩:=yx S a q.nb.length 0 ((q.va.length:Int)+(q.nb.length:Int)+(q.cons.length:Int)) Z2 Z2 Z2;refine ⟨b,g.eq λn=>?_,O⟩;unfold Xq zA;rw [zAE (by simp only [Aa];omega)];rfl
end
section
set_option maxRecDepth 100000
set_option maxHeartbeats 40000000
end
abbrev zOv:=@Go.IntKind.wrap_u64
abbrev zQS:=@List.range_eq_range'
section
open Classical
theorem rY {x:Int}(h:Sm 16 x):Ev (λn=>SN n x) ((g9 x:Nat):Int):=by
 have N:IntKind.u64.wrap x=x:=by
  have h1:=h.1;have h2:x<65536:=h.2;rw [zOv];omega
 have key: ∀ (k i:Nat),i+k=64 -> Ev (λn=>SM x n (.l1 (cnt (λs=>tb x s) i) (i:Int))) (cnt (λs=>tb x s) 64):=by
  intro k
  induction k with
  | zero=>
   simp_all [Ev.one,Za,SM]
  | succ k b=>
   intro i e;have hb:=YK (p:=λs=>tb x s) (i:=i);have g:IntKind.u64.wrap (i:Int)=(i:Int):=by rw [zOv];omega
   refine AV.ev (AV.one λn=>?_) (b (i+1) Z2)
   show Za n (SM x n) x _ (i:Int)=_
   unfold Za;rw [zAC Z2,zAG,g,N,u8,zAJ,iO h Z6 Z2];have F:IntKind.i64.wrap (if tb x i=true then 1 else 0)=if tb x i=true then 1 else 0:=by split <;> decide
   rw [F,UN,show ((i+1:Nat):Int)=(i:Int)+1 by omega,zAE ⟨⟨Z2,by show (i:Int)<=((64:Nat):Int);omega⟩,Aa.2 (by split <;> omega),Aa.2 ⟨Z2,Z2⟩⟩]
 have S:cnt (λs=>tb x s) 64=((g9 x:Nat):Int):=by
  unfold cnt g9 B4
  have z:(List.range' 16 48).countP (λs=>tb x s)=0:=List.countP_eq_zero.2 λs l=>by
   rw [h.hi (List.mem_range'_1.1 l).1];decide
  rw [←zPk,zQS,show List.range' 0 64=List.range' 0 (16-0)++List.range' 16 48 from rfl,List.countP_append,z];rfl
 have:=key 64 0 Z2;rw [S] at this;exact this.eq λn=>rfl
theorem zR {α:Type}{l:List α}{d:α}{j:Nat}(hj:j<l.length):l.drop j=l.getD j d::l.drop (j+1):=by
 simp_all
section
variable {q:AA} {pos:Ξ}
end
end
section
set_option maxRecDepth 100000
set_option maxHeartbeats 40000000
def zC8:Ae (A0 Tryz.f60 1) [] (List.range 10) []:=Z0
def rt:BF:=λi=>match i with
 | 1=>.ord [] (List.range 10) []
 | _=>.no
def pk (n:Nat)(kind at_:Int)(q:AA)(most fuel:Int)(R:Bool)(g:List (Δ))(gs:List Ξ):Option (Bool×Bool×(List (Δ))):= bif (decide ((g.length:Int)>=fuel)) then some (false,true,g) else if g.length+([(kind,at_)]:List (Δ)).length<=Av then some (true,R,(g++([(kind,at_)]:List (Δ)))) else none
def Jo (n:Nat)(kind at_:Int)(q:AA)(most fuel:Int)(R:Bool)(g:List (Δ))(gs:List Ξ):Option (Bool×Bool×(List (Δ))):=pk n kind at_ q most fuel R g gs
variable {most fuel:Int}{q:AA}{n:Nat}
def ZA {kind at_:Int}{R:Bool}{g:List (Δ)}{gs:List Ξ}{r:Bool×Bool×(List (Δ))}(h:Jo n kind at_ q most fuel R g gs=some r):EQ 60 [.ref 0 0,.i kind,.i at_] [oC (AE q++[.i most,.i fuel,.gr 1,.gr 2,.bool R]),some (.gro 2 g.length (AO A2 g)),some (.gro 1 gs.length (AO AW gs))] (.bool r.1) [oC (AE q++[.i most,.i fuel,.gr 3,.gr 2,.bool r.2.1]),none,some (.gro 1 gs.length (AO AW gs)),some (.gro 2 r.2.2.length (AO A2 r.2.2))] false:=by
 refine ot Tryz.func60 λB N=>?_
 refine BI.le (A7.moveE 1 ⟨AH 32 [(0,.ref 0 0),(1,.i kind),(2,.i at_)],[oC (AE q++[.i most,.i fuel,.gr 3,.gr 2,.bool R]),none,some (.gro 1 gs.length (AO AW gs)),some (.gro 2 g.length (AO A2 g))]⟩ Z5) Z5 ?_;revert r;apply gO;exact jg zC8 (bi 16 (jt (lE rt [6] [0,1,2,3])) (ja 28 4 2 (Gb (c:=A2) (L:=([(kind,at_)]:List (Δ))) (vals:=[.agg 2 (L1 [.i kind,.i at_])]) rfl ⟨⟨_,rfl,⟨Ar,Ar,trivial⟩⟩,trivial⟩) (gn λW=>jg (And.intro (And.intro (And.intro (Eq.refl 0) (Eq.refl 1)) (OL A2 ([(kind,at_)]:List (Δ)) (([(kind,at_)]:List (Δ)).length) 2 λ_=>⟨rfl,rfl⟩)) (And.intro (by decide:0<1) W)) (ja 29 5 2 (Vf (enc:=(Xv A2)) (L:=g) (L':=([(kind,at_)]:List (Δ))) rfl rfl λ_ _ _ _=>Ar) (jt (lE rt [6] [0,1,2,5]))))))
inductive eV where
 | l1 (x4:Int) (x5:Bool) (x6:Int)
def UH (n:Nat)(self:eV -> X8)(pos:Ξ)(I:Int)(l:Bool)(c:Int):X8:= bif (decide (c<(pos.length:Int))) then if 0<=c/\ c<(pos.length:Int) then (SN n (pos.getD c.toNat 0)).bind λe=> bif (decide (e>=2)) then bif (!l) then if AG (c+1) then self (.l1 c true (c+1)) else none else if 0<=I/\ I<(pos.length:Int) then (SN n (pos.getD I.toNat 0)).bind λx=> bif (decide (e<x)) then if AG (c+1) then self (.l1 c true (c+1)) else none else if AG (c+1) then self (.l1 I l (c+1)) else none else none else if AG (c+1) then self (.l1 I l (c+1)) else none else none else (LN n pos).bind λe=> bif e then some (0,false) else bif (!l) then some (0,false) else some (I,true)
def zNk (n:Nat)(self:eV -> X8)(pos:Ξ):X8:= self (.l1 0 false 0)
def NC (pos:Ξ):Nat -> eV -> X8
 | 0,_=>none
 | n+1,.l1 I l c=>UH n (NC pos n) pos I l c
def O7 (n:Nat)(pos:Ξ):X8:=zNk n (NC pos n) pos
def zNl (n B:Nat)(N:Yd 0)(pos:Ξ)(r:Int×Bool):eV -> Prop:=px n B Fence.wide N (FQ Tryz.f30 0 (.tup 2 (L1 [.i r.1,.bool r.2])) []) (Ac Tryz.f30) λ
 | .l1 I l c=>(0,0,AH 42 [(0,.ints pos),(4,.i I),(5,.bool l),(6,.i c)],[])
def zNm (B:Nat)(N:Yd 0)(pos:Ξ):Al (NC pos) (zNl · B N pos):=ia (λ_=>rfl) λn w a r h=>by
 cases a
 case l1 x4 x5 x6=>
  intro m k;refine rd k λm k=>?_
  revert r;apply gO;exact bi 11 (gi (cf rX [] λ_=>bi 20 (bi 23 (gw 13 (lG AD [] (w _ _ · m k))) (gi (cf rX [] λ_=>bi 31 (gw 13 (lG AD [] (w _ _ · m k))) (gw 13 (lG AD [] (w _ _ · m k)))))) (gw 13 (lG AD [] (w _ _ · m k))))) (cf S5 [] λ_=>bi 36 (lE AD [2,3] []) (bi 39 (lE AD [2,3] []) (lE AD [2,3] [])))
variable {pos:Ξ}
def zW {r:Int×Bool}(h:O7 n pos=some r):EQ 30 [.ints pos] [] (.tup 2 (L1 [.i r.1,.bool r.2])) [] true:=by
 refine ot Tryz.func30 λB N=>?_
 revert r;apply gO;exact lN AD [] ((zNm B N pos n) _ _ · n Nat.le.refl)
def zOo (n:Nat)(T:Int):Option Int:= bif (decide (T<0)) then some 0 else bif (decide (T>=16)) then some 0 else if 0<=IntKind.u64.wrap T/\ IntKind.u64.wrap T<=(IntKind.i64.bits:Int) then some (IntKind.i64.wrap (1*2 ^ (IntKind.u64.wrap T).toNat)) else none
def RM (n:Nat)(T:Int):Option Int:=zOo n T
variable {T:Int}
def oJ {r:Int}(h:RM n T=some r):EQ 91 [.i T] [] (.i r) [] true:=by
 refine ot Tryz.func91 λB N=>?_
 revert r;apply gO;exact bi 4 (lE AD [2] []) (bi 7 (lE AD [2] []) (gi (lE AD [2] [])))
def sK:Ae (A0 Tryz.f61 6) [([0,1,2,3,4,5,6,7],8)] [9,10] []:=Z0
def HQ:BF:=λi=>match i with
 | 6=>.ord [([0,1,2,3,4,5,6,7],8)] [9,10] []
 | _=>.no
inductive Pd where
 | l1
 | l2 (x6:Int)
 | l3 (x4:Nat) (x5:Int) (o0:Ξ)
 | l4 (x4:Nat) (x5 x6:Int) (o0:Ξ)
def rL (n:Nat)(self:Pd -> W5)(pos:Ξ):W5:= bif (decide (0<(pos.length:Int))) then self (.l2 0) else some (([]:Ξ),true)
def ZX (n:Nat)(self:Pd -> W5)(pos:Ξ)(c:Int):W5:= bif (decide (c<16)) then if (0:Int)<=0/\ 0<(pos.length:Int) then (RM n c).bind λe=> bif ((pos.getD 0 0) != e) then if AG (c+1) then self (.l2 (c+1)) else none else bif (c==16) then some (([]:Ξ),false) else if (0=0/\ 1=([c]:Ξ).length)/\ 0<([c]:Ξ).length/\ ([c]:Ξ).length<=Av then self (.l3 (([c]:Ξ).length) 1 ([c]:Ξ)) else none else none else bif (c==16) then some (([]:Ξ),false) else if (0=0/\ 1=([c]:Ξ).length)/\ 0<([c]:Ξ).length/\ ([c]:Ξ).length<=Av then self (.l3 (([c]:Ξ).length) 1 ([c]:Ξ)) else none
def iJ (n:Nat)(self:Pd -> W5)(pos:Ξ)(I:Nat)(l:Int)(o0:Ξ):W5:= bif (decide (l<(pos.length:Int))) then self (.l4 I l 0 o0) else if I=o0.length then some (o0,true) else none
def ZW (n:Nat)(self:Pd -> W5)(pos:Ξ)(I:Nat)(l c:Int)(o0:Ξ):W5:= bif (decide (c<16)) then if 0<=l/\ l<(pos.length:Int) then (RM n c).bind λe=> bif ((pos.getD l.toNat 0) != e) then if AG (c+1) then self (.l4 I l (c+1) o0) else none else bif (c==16) then some (([]:Ξ),false) else if ((0=0/\ 1=([c]:Ξ).length)/\ (0=0/\ I=o0.length)/\ o0.length+([c]:Ξ).length<=Av)/\ AG (l+1) then self (.l3 (o0.length+([c]:Ξ).length) (l+1) (o0++([c]:Ξ))) else none else none else bif (c==16) then some (([]:Ξ),false) else if ((0=0/\ 1=([c]:Ξ).length)/\ (0=0/\ I=o0.length)/\ o0.length+([c]:Ξ).length<=Av)/\ AG (l+1) then self (.l3 (o0.length+([c]:Ξ).length) (l+1) (o0++([c]:Ξ))) else none
def zCR (n:Nat)(self:Pd -> W5)(pos:Ξ):W5:= self (.l1)
def C6 (pos:Ξ):Nat -> Pd -> W5
 | 0,_=>none
 | n+1,.l1=>rL n (C6 pos n) pos
 | n+1,.l2 c=>ZX n (C6 pos n) pos c
 | n+1,.l3 I l o0=>iJ n (C6 pos n) pos I l o0
 | n+1,.l4 I l c o0=>ZW n (C6 pos n) pos I l c o0
def SL (n:Nat)(pos:Ξ):W5:=zCR n (C6 pos n) pos
def zCS (n B:Nat)(N:Yd 0)(pos:Ξ)(r:Ξ×Bool):Pd -> Prop:=px n B Fence.wide N (FQ Tryz.f61 0 (.tup 2 (L1 [.ints r.1,.bool r.2])) []) (Ac Tryz.f61) λ
 | .l1=>(0,0,AH 33 [(0,.ints pos),(4,.nils),(5,.i 0)],[])
 | .l2 c=>(1,2,AH 33 [(0,.ints pos),(4,.nils),(5,.i 0),(6,.i c)],[])
 | .l3 I l o0=>(0,0,AH 33 [(0,.ints pos),(4,.msl 0 1 0 I),(5,.i l)],[oI o0])
 | .l4 I l c o0=>(1,2,AH 33 [(0,.ints pos),(4,.msl 0 1 0 I),(5,.i l),(6,.i c)],[oI o0])
def zCT (B:Nat)(N:Yd 0)(pos:Ξ):Al (C6 pos) (zCS · B N pos):=ia (λ_=>rfl) λn w b r h=>by
 cases b
 case l1=>
  intro m k;refine rd k λm k=>?_
  revert r;apply gO;exact bi 10 (lN HQ [] (w _ _ · m n k Nat.le.refl)) (lF λp=>el HQ [2,3] [] p [] H0 [.nils,.bool true] (AM.tupL (l:=[.nils,.bool true]) (l':=[.ints ([]:Ξ),.bool true]) rfl ⟨AM.ints_nil,Ar,trivial⟩))
 case l2 x6=>
  intro m a k j;have k:=zBR k;refine rd j λa j=>?_
  revert r;apply gO;exact jg sK (bi 14 (gi (cf oJ [] λ_=>bi 22 (gw 25 (lG HQ [] (w _ _ · m a k j))) (bi 27 (lF λp=>el HQ [2,3] [] p [] H0 [.nils,.bool false] (AM.tupL (l:=[.nils,.bool false]) (l':=[.ints ([]:Ξ),.bool false]) rfl ⟨AM.ints_nil,Ar,trivial⟩)) (gi (lG HQ [1] (w _ _ · m k)))))) (bi 27 (lF λp=>el HQ [2,3] [] p [] H0 [.nils,.bool false] (AM.tupL (l:=[.nils,.bool false]) (l':=[.ints ([]:Ξ),.bool false]) rfl ⟨AM.ints_nil,Ar,trivial⟩)) (gi (lG HQ [1] (w _ _ · m k)))))
 case l3 x4 x5 o0=>
  intro m k;refine rd k λm k=>?_
  revert r;apply gO;exact bi 10 (lN HQ [0] (w _ _ · m n k Nat.le.refl)) (gn λW=>lF λp=>ez HQ [2,3] [0] p [0] (H0.g W))
 case l4 x4 x5 x6 o0=>
  intro m a k j;have k:=zBR k;refine rd j λa j=>?_
  revert r;apply gO;exact jg sK (bi 14 (gi (cf oJ [oI o0] λ_=>bi 22 (gw 25 (lG HQ [0] (w _ _ · m a k j))) (bi 27 (lF λp=>el HQ [2,3] [] p [] H0 [.nils,.bool false] (AM.tupL (l:=[.nils,.bool false]) (l':=[.ints ([]:Ξ),.bool false]) rfl ⟨AM.ints_nil,Ar,trivial⟩)) (gc (gi (gw 12 (lG HQ [2] (w _ _ · m k)))))))) (bi 27 (lF λp=>el HQ [2,3] [] p [] H0 [.nils,.bool false] (AM.tupL (l:=[.nils,.bool false]) (l':=[.ints ([]:Ξ),.bool false]) rfl ⟨AM.ints_nil,Ar,trivial⟩)) (gc (gi (gw 12 (lG HQ [2] (w _ _ · m k)))))))
def zCQ {r:Ξ×Bool}(h:SL n pos=some r):EQ 61 [.ints pos] [] (.tup 2 (L1 [.ints r.1,.bool r.2])) [] true:=by
 refine ot Tryz.func61 λB N=>?_
 revert r;apply gO;exact lN HQ [] ((zCT B N pos n) _ _ · n Nat.le.refl)
def cH (n:Nat)(pos:Ξ):Option Ξ:= (LN n pos).bind λe=> bif e then if ((pos.length:Int):Int)=(pos.length:Int)/\ 0<=(pos.length:Int)/\ ((pos.length:Int):Int)<=1000000000000 then if pos.length=(List.replicate pos.length (0:Int)).length then some (List.replicate pos.length (0:Int)) else none else none else some pos
def kE (n:Nat)(pos:Ξ):Option Ξ:=cH n pos
def zH9 {r:Ξ}(h:kE n pos=some r):EQ 103 [.ints pos] [] (.ints r) [] true:=by
 unfold kE cH at h;refine ot Tryz.func103 λB N=>?_
 revert r;apply gO;exact cf S5 [] λ_=>bi 4 (gi (gn λa=>lF λp=>ez AD [2] [0] p [0] (H0.g a))) (lE AD [2] [])
def fS (n:Nat)(q:AA)(pos:Ξ)(cell T s:Int):W6:= (HV n q pos).bind λe=> bif (e != 0) then some (([]:Ξ),e) else bif (decide (cell<0)) then some (([]:Ξ),1) else bif (decide (cell>=q.ce)) then some (([]:Ξ),1) else bif (decide (T<0)) then some (([]:Ξ),1) else bif (decide (T>=q.sy)) then some (([]:Ξ),1) else if ((True)/\ 0<pos.length/\ pos.length<=Av)/\ (0<=cell/\ cell<(pos.length:Int))/\ 0+cell.toNat<pos.length then if pos.length=(pos.set (0+cell.toNat) (bits .and .i64 (pos.getD (0+cell.toNat) 0) s)).length then (kE n (pos.set (0+cell.toNat) (bits .and .i64 (pos.getD (0+cell.toNat) 0) s))).bind λx=> some (x,0) else none else none
def oA (n:Nat)(q:AA)(pos:Ξ)(cell T s:Int):W6:=fS n q pos cell T s
variable {r:Ξ×Int}{cell:Int}
def zOY {s:Int}(h:oA n q pos cell T s=some r):EQ 92 [.agg 5 (L1 (AE q)),.ints pos,.i cell,.i T,.i s] [] (.tup 2 (L1 [.ints r.1,.i r.2])) [] true:=by
 unfold oA fS at h;refine ot Tryz.func92 λB N=>?_
 revert r;apply gO
 exact cf Sd [oC (AE q)] λe=>bi 18 (lF λp=>el AD [10,11] [] p [] H0 [.nils,.i e] (AM.tupL (l:=[.nils,.i e]) (l':=[.ints ([]:Ξ),.i e]) rfl ⟨AM.ints_nil,Ar,trivial⟩)) (bi 21 (lF λp=>el AD [10,11] [] p [] H0 [.nils,.i 1] (AM.tupL (l:=[.nils,.i 1]) (l':=[.ints ([]:Ξ),.i 1]) rfl ⟨AM.ints_nil,Ar,trivial⟩)) (bi 26 (lF λp=>el AD [10,11] [] p [] H0 [.nils,.i 1] (AM.tupL (l:=[.nils,.i 1]) (l':=[.ints ([]:Ξ),.i 1]) rfl ⟨AM.ints_nil,Ar,trivial⟩)) (bi 30 (lF λp=>el AD [10,11] [] p [] H0 [.nils,.i 1] (AM.tupL (l:=[.nils,.i 1]) (l':=[.ints ([]:Ξ),.i 1]) rfl ⟨AM.ints_nil,Ar,trivial⟩)) (bi 36 (lF λp=>el AD [10,11] [] p [] H0 [.nils,.i 1] (AM.tupL (l:=[.nils,.i 1]) (l':=[.ints ([]:Ξ),.i 1]) rfl ⟨AM.ints_nil,Ar,trivial⟩)) (gc (gi (gc (gn λa=>jg a (gn λb=>jg b (jg a (jg b (gn λR=>λp r h=>by
  refine gz (AJ 9 AD) [1] p [0] (H0.g R) (Dr (Ac Tryz.f92) 9 []) (AH 52 [(13,.ints (pos.set (0+cell.toNat) (bits .and .i64 (pos.getD (0+cell.toNat) 0) s)))]) [none] ?_;revert r;apply gO;exact cf zH9 [none] λ_=>lE AD [10,11] []))))))))))))
def zEA:Ae (A0 Tryz.f62 1) [([0,1,2,3,4],5),([],6)] [7,8,9,10] []:=Z0
def zCq:BF:=λi=>match i with
 | 1=>.ord [([0,1,2,3,4],5),([],6)] [7,8,9,10] []
 | _=>.no
def zM1 (n:Nat)(q:AA)(pos:Ξ)(cell T:Int):W6:= (RM n T).bind λe=> (oA n q pos cell T e).bind λx=> some (x.1,x.2)
def Xi (n:Nat)(q:AA)(pos:Ξ)(cell T:Int):W6:=zM1 n q pos cell T
def zM0 (h:Xi n q pos cell T=some r):EQ 62 [.agg 5 (L1 (AE q)),.ints pos,.i cell,.i T] [] (.tup 2 (L1 [.ints r.1,.i r.2])) [] true:=by
 refine ot Tryz.func62 λB N=>?_
 revert r;apply gO;exact jg zEA (cf oJ [oC (AE q)] λ_=>cf zOY [oC (AE q)] λ_=>lE zCq [8,9] [])
def zDG:Ae (A0 Tryz.f38 15) [] (List.range 11) []:=Z0
def I8:BF:=λi=>match i with
 | 15=>.ord [] (List.range 11) []
 | _=>.no
def xS (q:AA)(most fuel:Int)(R:Bool)(g:List (Δ))(gs:List Ξ):DH:=[oC (AE q++[.i most,.i fuel,.gr 3,.gr 4,.bool R]),none,none,some (.gro 2 g.length (AO A2 g)),some (.gro 1 gs.length (AO AW gs))]
def Qm (q:AA)(most fuel:Int)(y:Bool)(a:List (Δ))(gs:List Ξ):DH:=[oC (AE q++[.i most,.i fuel,.gr 3,.gr 4,.bool y]),none,none,some (.gro 2 a.length (AO A2 a)),some (.gro 1 gs.length (AO AW gs))]
def xR (q:AA)(most fuel:Int)(y:Bool)(a:List (Δ))(o4:List Ξ):DH:=[oC (AE q++[.i most,.i fuel,.gr 3,.gr 4,.bool y]),none,none,some (.gro 2 a.length (AO A2 a)),some (.gro 1 o4.length (AO AW o4))]
inductive VM where
 | l1 (x5 x7:Ξ) (x9:Int) (Cs:Bool) (o3:List (Δ))
 | l2 (x7:Ξ) (AQ Ak:Int) (Cs:Bool) (o3:List (Δ)) (o4:List Ξ)
def Zg (n:Nat)(Am:Ξ -> AA -> Int -> Int -> Bool -> (List (Δ)) -> (List Ξ) -> Option (Bool×Bool×(List (Δ))×(List Ξ)))(self:VM -> Option (Bool×Bool×(List (Δ))×(List Ξ)))(pos:Ξ)(q:AA)(most fuel:Int)(CW:Bool)(tr:List (Δ))(gs:List Ξ)(l P:Ξ)(N:Int)(y:Bool)(a:List (Δ)):Option (Bool×Bool×(List (Δ))×(List Ξ)):= bif (decide (N<(l.length:Int))) then if 0<=N/\ N<(l.length:Int) then (Jo n 1 (l.getD N.toNat 0) q most fuel y a gs).bind λe=> bif (!e.1) then some (false,e.2.1,e.2.2,gs) else if AG (N+1) then self (.l1 l P (N+1) e.2.1 e.2.2) else none else none else (LN n P).bind λe=> bif e then (Jo n 3 0 q most fuel y a gs).bind λx=> some (x.1,x.2.1,x.2.2,gs) else (SL n P).bind λx=> bif x.2 then (Jo n 4 0 q most fuel y a gs).bind λy3=> bif (!y3.1) then some (false,y3.2.1,y3.2.2,gs) else if gs.length+([x.1]:List Ξ).length<=Av then some ((decide ((((gs++([x.1]:List Ξ)).length:Nat):Int)<most)),y3.2.1,y3.2.2,(gs++([x.1]:List Ξ))) else none else (O7 n P).bind λy3=> (Jo n 2 y3.1 q most fuel y a gs).bind λm=> bif (!m.1) then some (false,m.2.1,m.2.2,gs) else self (.l2 P y3.1 0 m.2.1 m.2.2 gs)
def Zf (n:Nat)(N:Ξ -> AA -> Int -> Int -> Bool -> (List (Δ)) -> (List Ξ) -> Option (Bool×Bool×(List (Δ))×(List Ξ)))(self:VM -> Option (Bool×Bool×(List (Δ))×(List Ξ)))(pos:Ξ)(q:AA)(most fuel:Int)(CW:Bool)(tr:List (Δ))(gs:List Ξ)(P:Ξ)(k T:Int)(y:Bool)(a:List (Δ))(o4:List Ξ):Option (Bool×Bool×(List (Δ))×(List Ξ)):= bif (decide (T<q.sy)) then if (0<=k/\ k<(P.length:Int))/\ (0<=IntKind.u64.wrap T/\ IntKind.u64.wrap T<=(IntKind.i64.bits:Int)) then bif ((bits .and .i64 ((P.getD k.toNat 0)/2 ^ (IntKind.u64.wrap T).toNat) 1)==0) then if AG (T+1) then self (.l2 P k (T+1) y a o4) else none else (Xi n q P k T).bind λe=> (N e.1 q most fuel y a o4).bind λx=> bif (!x.1) then some (false,x.2.1,x.2.2.1,x.2.2.2) else if AG (T+1) then self (.l2 P k (T+1) x.2.1 x.2.2.1 x.2.2.2) else none else none else some (true,y,a,o4)
def zCk (n:Nat)(Am:Ξ -> AA -> Int -> Int -> Bool -> (List (Δ)) -> (List Ξ) -> Option (Bool×Bool×(List (Δ))×(List Ξ)))(self:VM -> Option (Bool×Bool×(List (Δ))×(List Ξ)))(pos:Ξ)(q:AA)(most fuel:Int)(R:Bool)(g:List (Δ))(gs:List Ξ):Option (Bool×Bool×(List (Δ))×(List Ξ)):= (QC n q pos 4).bind λe=> (Uf n q pos 4).bind λx=> self (.l1 e.1 x.1 0 R g)
def Fc (N:Ξ -> AA -> Int -> Int -> Bool -> (List (Δ)) -> (List Ξ) -> Option (Bool×Bool×(List (Δ))×(List Ξ)))(pos:Ξ)(q:AA)(most fuel:Int)(R:Bool)(g:List (Δ))(gs:List Ξ):Nat -> VM -> Option (Bool×Bool×(List (Δ))×(List Ξ))
 | 0,_=>none
 | n+1,.l1 l P b y a=>Zg n N (Fc N pos q most fuel R g gs n) pos q most fuel R g gs l P b y a
 | n+1,.l2 P k T y a o4=>Zf n N (Fc N pos q most fuel R g gs n) pos q most fuel R g gs P k T y a o4
def D9:Nat -> Ξ -> AA -> Int -> Int -> Bool -> (List (Δ)) -> (List Ξ) -> Option (Bool×Bool×(List (Δ))×(List Ξ))
 | 0,_,_,_,_,_,_,_=>none
 | n+1,pos,q,most,fuel,R,g,gs=>zCk n (D9 n) (Fc (D9 n) pos q most fuel R g gs n) pos q most fuel R g gs
def zCl (n B:Nat)(N:Yd 3)(pos:Ξ)(q:AA)(most fuel:Int)(CW:Bool)(tr:List (Δ))(gs:List Ξ)(r:Bool×Bool×(List (Δ))×(List Ξ)):VM -> Prop:=px n B Fence.wide N (FQ Tryz.f38 3 (.bool r.1) [oC (AE q++[.i most,.i fuel,.gr 3,.gr 4,.bool r.2.1]),none,none,some (.gro 2 r.2.2.1.length (AO A2 r.2.2.1)),some (.gro 1 r.2.2.2.length (AO AW r.2.2.2))]) (Ac Tryz.f38) λ
 | .l1 l P b y a=>(0,0,AH 123 [(0,.ref 0 0),(5,.ints l),(7,.ints P),(9,.i b)],[oC (AE q++[.i most,.i fuel,.gr 3,.gr 4,.bool y]),none,none,some (.gro 2 a.length (AO A2 a)),some (.gro 1 gs.length (AO AW gs))])
 | .l2 P k T y a o4=>(0,2,AH 123 [(0,.ref 0 0),(7,.ints P),(12,.i k),(14,.i T)],[oC (AE q++[.i most,.i fuel,.gr 3,.gr 4,.bool y]),none,none,some (.gro 2 a.length (AO A2 a)),some (.gro 1 o4.length (AO AW o4))])
def zCm (B:Nat)(N:Yd 3)(a:Ξ -> AA -> Int -> Int -> Bool -> (List (Δ)) -> (List Ξ) -> Option (Bool×Bool×(List (Δ))×(List Ξ)))(b: ∀ {pos:Ξ} {q:AA} {most fuel:Int} {R:Bool} {g:List (Δ)} {gs:List Ξ} {r:Bool×Bool×(List (Δ))×(List Ξ)},a pos q most fuel R g gs=some r -> EQ 38 [.ref 0 0,.ints pos] [oC (AE q++[.i most,.i fuel,.gr 1,.gr 2,.bool R]),some (.gro 2 g.length (AO A2 g)),some (.gro 1 gs.length (AO AW gs))] (.bool r.1) [oC (AE q++[.i most,.i fuel,.gr 3,.gr 4,.bool r.2.1]),none,none,some (.gro 2 r.2.2.1.length (AO A2 r.2.2.1)),some (.gro 1 r.2.2.2.length (AO AW r.2.2.2))] false)(pos:Ξ)(q:AA)(most fuel:Int)(R:Bool)(g:List (Δ))(gs:List Ξ):Al (Fc a pos q most fuel R g gs) (zCl · B N pos q most fuel R g gs):=ia (λ_=>rfl) λn w d r h=>by
 cases d
 case l1 x5 x7 x9 Cs o3=>
  intro m k;refine rd k λm k=>?_
  revert r;apply gO;exact bi 38 (gi (ce ZA [0,3,4] (Qm q most fuel Cs o3 gs) λ_=>bi 47 (lE I8 [4] [0,1,2,5,4]) (gw 40 (lG I8 [0,1,2,5,4] (w _ _ · m k))))) (cf S5 (Qm q most fuel Cs o3 gs) λ_=>bi 49 (ce ZA [0,3,4] (Qm q most fuel Cs o3 gs) λ_=>lE I8 [4] [0,1,2,5,4]) (cf zCQ (Qm q most fuel Cs o3 gs) λx=>bi 56 (ce ZA [0,3,4] (Qm q most fuel Cs o3 gs) λ_=>bi 60 (lE I8 [4] [0,1,2,5,4]) (ja 67 6 1 (Gb (c:=AW) (L:=([x.1]:List Ξ)) (vals:=[.ints x.1]) rfl ⟨⟨_,rfl,⟨Ar,trivial⟩⟩,trivial⟩) (gn λW=>jg (And.intro (And.intro (And.intro (Eq.refl 0) (Eq.refl 1)) (OL AW ([x.1]:List Ξ) (([x.1]:List Ξ).length) 1 λ_=>⟨rfl,rfl⟩)) (And.intro (by decide:0<1) W)) (ja 68 7 1 (Vf (enc:=(Xv AW)) (L:=gs) (L':=([x.1]:List Ξ)) rfl rfl λ_ _ _ _=>Ar) (jt (jg zDG (lE I8 [4] [0,1,2,5,7]))))))) (cf zW (Qm q most fuel Cs o3 gs) λ_=>ce ZA [0,3,4] (Qm q most fuel Cs o3 gs) λ_=>bi 89 (lE I8 [4] [0,1,2,5,4]) (lN I8 [0,1,2,5,4] (w _ _ · n Nat.le.refl)))))
 case l2 x7 AQ Ak Cs o3 o4=>
  intro m k;refine rd k λm k=>?_
  revert r;apply gO;exact bi 96 (gc (gi (gi (bi 107 (gw 98 (lG I8 [0,1,2,3,4] (w _ _ · m k))) (cf zM0 (xR q most fuel Cs o3 o4) λ_=>cn λx A=>jc (em (b A) [0,3,4] (xR q most fuel Cs o3 o4)) (bi 122 (lE I8 [4] [0,1,2,5,6]) (gw 98 (lG I8 [0,1,2,5,6] (w _ _ · m k))))))))) (lE I8 [4] [0,1,2,3,4])
def zCj : ∀ {pos:Ξ} {q:AA} {most fuel:Int} {R:Bool} {g:List (Δ)} {gs:List Ξ} {r:Bool×Bool×(List (Δ))×(List Ξ)} (h:D9 n pos q most fuel R g gs=some r),EQ 38 [.ref 0 0,.ints pos] [oC (AE q++[.i most,.i fuel,.gr 1,.gr 2,.bool R]),some (.gro 2 g.length (AO A2 g)),some (.gro 1 gs.length (AO AW gs))] (.bool r.1) [oC (AE q++[.i most,.i fuel,.gr 3,.gr 4,.bool r.2.1]),none,none,some (.gro 2 r.2.2.1.length (AO A2 r.2.2.1)),some (.gro 1 r.2.2.2.length (AO AW r.2.2.2))] false:=by
 induction n with
 | zero=>intro pos q most fuel R g gs r h;cases h
 | succ n x=>
  intro pos q most fuel R g gs r h;refine ot Tryz.func38 λB N=>?_
  refine BI.le (A7.moveE 1 ⟨AH 123 [(0,.ref 0 0),(1,.ints pos)],[oC (AE q++[.i most,.i fuel,.gr 3,.gr 2,.bool R]),none,some (.gro 1 gs.length (AO AW gs)),some (.gro 2 g.length (AO A2 g))]⟩ Z5) Z5 ?_;refine BI.le (A7.moveE 2 ⟨AH 123 [(0,.ref 0 0),(1,.ints pos)],[oC (AE q++[.i most,.i fuel,.gr 3,.gr 4,.bool R]),none,none,some (.gro 2 g.length (AO A2 g)),some (.gro 1 gs.length (AO AW gs))]⟩ Z5) Z5 ?_;revert r;apply gO;exact cf zHm (xS q most fuel R g gs) λ_=>cf zPO (xS q most fuel R g gs) λ_=>lN I8 [0,1,2,3,4] ((zCm B N (D9 n) x pos q most fuel R g gs n) _ _ · n Nat.le.refl)
def zKx (q:AA)(most fuel:Int):DH:=[oC [.i 0,.i 0,.nils,.nils,.nils,.i 0,.i 0,.nils,.nils,.bool false],oC (AE q++[.i most,.i fuel,.nils,.nils,.bool false])]
def zKw (q:AA)(most fuel:Int):DH:=[oC [.i 0,.i 0,.nils,.nils,.nils,.i 0,.i 0,.nils,.nils,.bool false],oC (AE q++[.i most,.i fuel,.gr 2,.nils,.bool false]),some (.gro 2 (([]:List (Δ)).length) (AO A2 ([]:List (Δ))))]
def xU (q:AA)(most fuel:Int):DH:=[oC [.i 0,.i 0,.nils,.nils,.nils,.i 0,.i 0,.nils,.nils,.bool false],oC (AE q++[.i most,.i fuel,.gr 2,.gr 3,.bool false]),some (.gro 2 (([]:List (Δ)).length) (AO A2 ([]:List (Δ)))),some (.gro 1 (([]:List Ξ).length) (AO AW ([]:List Ξ)))]
def zEv (n:Nat)(q:AA)(pos:Ξ)(most fuel:Int):Option ((AA×Int×Int×(List (Δ))×(List Ξ)×Bool)):= (D9 n pos q most fuel false ([]:List (Δ)) ([]:List Ξ)).bind λe=> some (q,most,fuel,e.2.2.1,e.2.2.2,e.2.1)
def Sc (n:Nat)(q:AA)(pos:Ξ)(most fuel:Int):Option ((AA×Int×Int×(List (Δ))×(List Ξ)×Bool)):=zEv n q pos most fuel
def sv {r:(AA×Int×Int×(List (Δ))×(List Ξ)×Bool)}(h:Sc n q pos most fuel=some r):EQ 28 [.agg 5 (L1 (AE q)),.ints pos,.i most,.i fuel] [] (.agg 10 (L1 (AE r.1++[.i r.2.1,.i r.2.2.1,.sl 2 r.2.2.2.1.length (AO A2 r.2.2.2.1),.sl 1 r.2.2.2.2.1.length (AO AW r.2.2.2.2.1),.bool r.2.2.2.2.2]))) [] true:=by
 refine ot Tryz.func28 λB N=>?_
 revert r;apply gO
 exact jt (λp r h=>by
  refine gs (AJ 2 AD) [1,2] p (Dr (Ac Tryz.f28) 2 []) (AH 17 [(1,.ints pos),(8,.ref 0 0),(9,.ref 1 0)]) (zKx q most fuel) ?_;refine BI.le (A7.groE (g:=.gro 2 (([]:List (Δ)).length) (AO A2 ([]:List (Δ)))) ⟨_,_,rfl⟩ (some 1) 7 ⟨AH 17 [(1,.ints pos),(8,.ref 0 0),(9,.ref 1 0)],(zKw q most fuel)⟩ Z5 Z5) Z5 ?_;refine BI.le (A7.groE (g:=.gro 1 (([]:List Ξ).length) (AO AW ([]:List Ξ))) ⟨_,_,rfl⟩ (some 1) 8 ⟨AH 17 [(1,.ints pos),(8,.ref 0 0),(9,.ref 1 0)],(xU q most fuel)⟩ Z5 Z5) Z5 ?_;revert r;apply gO;exact ce zCj [1,2,3] (xU q most fuel) λ_=>jt (lF λp=>ez AD [8] [0,4,5] p [1,2] H0))
def zED:Ae (A0 Tryz.f11 13) [] (List.range 7) []:=Z0
def zCr:BF:=λi=>match i with
 | 13=>.ord [] (List.range 7) []
 | _=>.no
def yu (n:Nat)(q:AA)(pos:Ξ)(fuel:Int):Option ((List Ξ)×(List (Δ))×Int):= (HV n q pos).bind λe=> bif (e != 0) then some (([]:List Ξ),([]:List (Δ)),e) else bif (decide (fuel<0)) then some (([]:List Ξ),([]:List (Δ)),1) else bif (decide (fuel>16777216)) then some (([]:List Ξ),([]:List (Δ)),1) else (Sc n q pos 2 (if 65536<fuel then 65536 else fuel)).bind λx=> bif x.2.2.2.2.2 then bif (decide (fuel>65536)) then some (([]:List Ξ),([]:List (Δ)),2) else some (([]:List Ξ),([]:List (Δ)),220) else bif ((x.2.2.2.2.1.length:Int)==2) then some (x.2.2.2.2.1,([]:List (Δ)),0) else some (x.2.2.2.2.1,x.2.2.2.1,0)
def Kj (n:Nat)(q:AA)(pos:Ξ)(fuel:Int):Option ((List Ξ)×(List (Δ))×Int):=yu n q pos fuel
def yt {r:(List Ξ)×(List (Δ))×Int}(h:Kj n q pos fuel=some r):EQ 11 [.agg 5 (L1 (AE q)),.ints pos,.i fuel] [] (.tup 3 (L1 [.sl 1 r.1.length (AO AW r.1),.sl 2 r.2.1.length (AO A2 r.2.1),.i r.2.2])) [] true:=by
 unfold Kj yu at h;refine ot Tryz.func11 λB N=>?_
 revert r;apply gO;exact cf Sd [oC (AE q)] λe=>bi 15 (lF λp=>el AD [6,7,8] [] p [] H0 [.nils,.nils,.i e] (AM.tupL (l:=[.nils,.nils,.i e]) (l':=[.sl 1 (([]:List Ξ).length) (AO AW ([]:List Ξ)),.sl 2 (([]:List (Δ)).length) (AO A2 ([]:List (Δ))),.i e]) rfl ⟨(AM.sl_nil _ _),(AM.sl_nil _ _),Ar,trivial⟩)) (bi 18 (lF λp=>el AD [6,7,8] [] p [] H0 [.nils,.nils,.i 1] (AM.tupL (l:=[.nils,.nils,.i 1]) (l':=[.sl 1 (([]:List Ξ).length) (AO AW ([]:List Ξ)),.sl 2 (([]:List (Δ)).length) (AO A2 ([]:List (Δ))),.i 1]) rfl ⟨(AM.sl_nil _ _),(AM.sl_nil _ _),Ar,trivial⟩)) (bi 21 (lF λp=>el AD [6,7,8] [] p [] H0 [.nils,.nils,.i 1] (AM.tupL (l:=[.nils,.nils,.i 1]) (l':=[.sl 1 (([]:List Ξ).length) (AO AW ([]:List Ξ)),.sl 2 (([]:List (Δ)).length) (AO A2 ([]:List (Δ))),.i 1]) rfl ⟨(AM.sl_nil _ _),(AM.sl_nil _ _),Ar,trivial⟩)) (cf sv [oC (AE q)] λx=>jt (bj 29 (λE=>bi 32 (lF λp=>el AD [6,7,8] [] p [] H0 [.nils,.nils,.i 2] (AM.tupL (l:=[.nils,.nils,.i 2]) (l':=[.sl 1 (([]:List Ξ).length) (AO AW ([]:List Ξ)),.sl 2 (([]:List (Δ)).length) (AO A2 ([]:List (Δ))),.i 2]) rfl ⟨(AM.sl_nil _ _),(AM.sl_nil _ _),Ar,trivial⟩)) (jb 35 E (lF λp=>el AD [6,7,8] [] p [] H0 [.nils,.nils,.i 220] (AM.tupL (l:=[.nils,.nils,.i 220]) (l':=[.sl 1 (([]:List Ξ).length) (AO AW ([]:List Ξ)),.sl 2 (([]:List (Δ)).length) (AO A2 ([]:List (Δ))),.i 220]) rfl ⟨(AM.sl_nil _ _),(AM.sl_nil _ _),Ar,trivial⟩)))) (λE=>jb 35 E (bi 39 (lF λp=>el AD [6,7,8] [] p [] H0 [.sl 1 x.2.2.2.2.1.length (AO AW x.2.2.2.2.1),.nils,.i 0] (AM.tupL (l:=[.sl 1 x.2.2.2.2.1.length (AO AW x.2.2.2.2.1),.nils,.i 0]) (l':=[.sl 1 x.2.2.2.2.1.length (AO AW x.2.2.2.2.1),.sl 2 (([]:List (Δ)).length) (AO A2 ([]:List (Δ))),.i 0]) rfl ⟨Ar,(AM.sl_nil _ _),Ar,trivial⟩)) (jg zED (lE zCr [6,7,8] []))))))))
def zt (n:Nat)(q:AA)(pos:Ξ):X2:= (HV n q pos).bind λe=> bif (e != 0) then some (0,false,e) else (O7 n pos).bind λx=> some (x.1,x.2,0)
def PB (n:Nat)(q:AA)(pos:Ξ):X2:=zt n q pos
def zr {r:Int×Bool×Int}(h:PB n q pos=some r):EQ 15 [.agg 5 (L1 (AE q)),.ints pos] [] (.tup 3 (L1 [.i r.1,.bool r.2.1,.i r.2.2])) [] true:=by
 unfold PB zt at h;refine ot Tryz.func15 λB N=>?_
 revert r;apply gO;exact cf Sd [oC (AE q)] λ_=>bi 14 (lE AD [4,5,6] []) (cf zW [oC (AE q)] λ_=>lE AD [4,5,6] [])
def wL (n:Nat)(q:AA)(pos:Ξ)(most fuel:Int):Option Δ:= (HV n q pos).bind λe=> bif (e != 0) then some (0,e) else bif (decide (most<1)) then some (0,1) else bif (decide (most>65536)) then some (0,1) else bif (decide (fuel<0)) then some (0,1) else bif (decide (fuel>16777216)) then some (0,1) else (Sc n q pos most fuel).bind λx=> bif x.2.2.2.2.2 then some (0,220) else some ((x.2.2.2.2.1.length:Int),0)
def Mj (n:Nat)(q:AA)(pos:Ξ)(most fuel:Int):Option Δ:=wL n q pos most fuel
def wK {r:Δ}(h:Mj n q pos most fuel=some r):EQ 17 [.agg 5 (L1 (AE q)),.ints pos,.i most,.i fuel] [] (.tup 2 (L1 [.i r.1,.i r.2])) [] true:=by
 unfold Mj wL at h;refine ot Tryz.func17 λB N=>?_
 revert r;apply gO;exact cf Sd [oC (AE q)] λ_=>bi 16 (lE AD [8,9] []) (bi 19 (lE AD [8,9] []) (bi 22 (lE AD [8,9] []) (bi 26 (lE AD [8,9] []) (bi 30 (lE AD [8,9] []) (cf sv [oC (AE q)] λ_=>jt (bi 38 (lE AD [8,9] []) (lE AD [8,9] [])))))))
def wd (n:Nat)(q:AA)(pos:Ξ)(fuel:Int):W9:= (SR n).bind λe=> bif (!e) then some false else (Xq n q).bind λx=> bif (!x) then some true else bif (decide (fuel>1000)) then bif (decide (fuel<=16777216)) then some true else (HE n q pos fuel).bind λy3=> (Kj n q pos fuel).bind λm=> (I9 n y3.1 m.1).bind λR=> bif R then (LA n y3.2.1 m.2.1).bind λd=> bif d then some (y3.2.2==m.2.2) else some false else some false else (HE n q pos fuel).bind λy3=> (Kj n q pos fuel).bind λm=> (I9 n y3.1 m.1).bind λR=> bif R then (LA n y3.2.1 m.2.1).bind λd=> bif d then some (y3.2.2==m.2.2) else some false else some false
def ka (n:Nat)(q:AA)(pos:Ξ)(fuel:Int):W9:=wd n q pos fuel
def zI0 {r:Bool}(h:ka n q pos fuel=some r):EQ 3 [.agg 5 (L1 (AE q)),.ints pos,.i fuel] [] (.bool r) [] true:=by
 unfold ka wd at h;refine ot Tryz.func3 λB N=>?_
 revert r;apply gO;exact cf sA [oC (AE q)] λ_=>bi 14 (lE AD [6] []) (cf yz [oC (AE q)] λ_=>bi 17 (lE AD [6] []) (bi 20 (bi 23 (lE AD [6] []) (cf Q9 [oC (AE q)] λ_=>cf yt [oC (AE q)] λ_=>cf Nm [oC (AE q)] λ_=>bi 44 (cf sF [oC (AE q)] λ_=>bi 48 (lE AD [6] []) (lE AD [6] [])) (lE AD [6] []))) (cf Q9 [oC (AE q)] λ_=>cf yt [oC (AE q)] λ_=>cf Nm [oC (AE q)] λ_=>bi 44 (cf sF [oC (AE q)] λ_=>bi 48 (lE AD [6] []) (lE AD [6] [])) (lE AD [6] []))))
def wc (n:Nat)(q:AA)(pos:Ξ)(most fuel:Int):W9:= (SR n).bind λe=> bif (!e) then some false else (Xq n q).bind λx=> bif (!x) then some true else bif (decide (fuel>1000)) then bif (decide (fuel<=16777216)) then some true else (NE n q pos).bind λy3=> (PB n q pos).bind λm=> (JK n q pos most fuel).bind λR=> (Mj n q pos most fuel).bind λd=> bif (y3.1==m.1) then bif (y3.2.1==m.2.1) then bif (y3.2.2==m.2.2) then bif (R.1==d.1) then some (R.2==d.2) else some false else some false else some false else some false else (NE n q pos).bind λy3=> (PB n q pos).bind λm=> (JK n q pos most fuel).bind λR=> (Mj n q pos most fuel).bind λd=> bif (y3.1==m.1) then bif (y3.2.1==m.2.1) then bif (y3.2.2==m.2.2) then bif (R.1==d.1) then some (R.2==d.2) else some false else some false else some false else some false
def kZ (n:Nat)(q:AA)(pos:Ξ)(most fuel:Int):W9:=wc n q pos most fuel
def zIy {r:Bool}(h:kZ n q pos most fuel=some r):EQ 4 [.agg 5 (L1 (AE q)),.ints pos,.i most,.i fuel] [] (.bool r) [] true:=by
 unfold kZ wc at h;refine ot Tryz.func4 λB N=>?_
 revert r;apply gO;exact cf sA [oC (AE q)] λ_=>bi 20 (lE AD [8] []) (cf yz [oC (AE q)] λ_=>bi 23 (lE AD [8] []) (bi 26 (bi 29 (lE AD [8] []) (cf YM [oC (AE q)] λ_=>cf zr [oC (AE q)] λ_=>cf Mi [oC (AE q)] λ_=>cf wK [oC (AE q)] λ_=>bi 64 (bi 68 (bi 73 (bi 78 (lE AD [8] []) (lE AD [8] [])) (lE AD [8] [])) (lE AD [8] [])) (lE AD [8] []))) (cf YM [oC (AE q)] λ_=>cf zr [oC (AE q)] λ_=>cf Mi [oC (AE q)] λ_=>cf wK [oC (AE q)] λ_=>bi 64 (bi 68 (bi 73 (bi 78 (lE AD [8] []) (lE AD [8] [])) (lE AD [8] [])) (lE AD [8] [])) (lE AD [8] []))))
end
abbrev NT:=List (Δ)
def Cv (most fuel:Int):List BP -> NT -> List Ξ -> Bool×Bool×NT×List Ξ
 | [],t,gs=>(true,false,t,gs)
 | x::l,t,gs=>if fuel<=(t.length:Int) then (false,true,t,gs) else if x.1.1=4 then (if ((gs++[x.2]).length:Int)<most then Cv most fuel l (t++[x.1]) (gs++[x.2]) else (false,false,t++[x.1],gs++[x.2])) else Cv most fuel l (t++[x.1]) gs
section
variable {most fuel:Int} {t:NT} {gs:List Ξ} {n:Nat} {q:AA} {p x o:Ξ} {c s:Nat}
theorem nF {b:List BP}: ∀ (a:List BP) (t:NT) (gs:List Ξ),Cv most fuel (a++b) t gs=if (Cv most fuel a t gs).1 then Cv most fuel b (Cv most fuel a t gs).2.2.1 (Cv most fuel a t gs).2.2.2 else Cv most fuel a t gs
 | [],t,gs=>rfl
 | x::a,t,gs=>by
  have h1:=nF (b:=b) a (t++[x.1]) (gs++[x.2]);have h2:=nF (b:=b) a (t++[x.1]) gs
  grind [Cv]
theorem nE: ∀ (a:List BP) (t:NT) (gs:List Ξ),gs.length<=t.length -> (Cv most fuel a t gs).2.2.2.length<=(Cv most fuel a t gs).2.2.1.length/\ ((Cv most fuel a t gs).1=true -> (Cv most fuel a t gs).2.1=false)
 | [],t,gs,h=>⟨h,λ_=>rfl⟩
 | x::a,t,gs,h=>by
  have h1:=nE a (t++[x.1]) (gs++[x.2]);have h2:=nE a (t++[x.1]) gs
  grind [Cv]
theorem Yz (hf:fuel<=16777216){k a:Int}:Jo n k a q most fuel false t gs=some (if fuel<=(t.length:Int) then (false,true,t) else (true,false,t++[(k,a)])):=by
 have L:(1000000000000:Nat)=Av:=rfl;unfold Jo pk
 grind
theorem nl (h:A4 q x): ∀ (k j:Nat),j+k=x.length -> Ev (λn=>NC x n (.l1 ((Bh x j).2:Int) (decide (Bh x j≠(0,0))) (j:Int))) (if BJ x then (0,false) else (if Bh x x.length=(0,0) then 0 else ((Bh x x.length).2:Int),decide (Bh x x.length≠(0,0))))
 | 0,j,e=>by
  have Z:=h.len256;refine Ev.oneN 300 λn u=>?_
  show UH n (NC x n) x _ _ (j:Int)=_
  unfold UH;rw [zAF Z2,zAz,MU Z.2 Z2,zAB,show j=x.length by omega]
  grind
 | k+1,j,e=>by
  have Z:=h.len256;have i:j<x.length:=Z2
  obtain ⟨N,W⟩:=rY (h.sm16 j i);have W: ∀ n,N<=n -> SN n (x.getD j 0)=some ((DR x j:Nat):Int):=W;have b:=nl h k (j+1) Z2;have r:AG ((j:Int)+1):=Aa.2 ⟨Z2,Z2⟩;have a:((j+1:Nat):Int)=(j:Int)+1:=Z2
  have ec:Bh x (j+1)=if 1<DR x j/\ (Bh x j=(0,0)∨DR x j<(Bh x j).1) then (DR x j,j) else Bh x j:=rfl
  have step: ∀ n,NC x (n+1) (.l1 ((Bh x j).2:Int) (decide (Bh x j≠(0,0))) (j:Int))=UH n (NC x n) x ((Bh x j).2:Int) (decide (Bh x j≠(0,0))) (j:Int):=λn=>rfl
  rcases oB (x:=x) j with ⟨h0,_⟩ | ⟨c,h3,A⟩
  ·refine AV.ev (m:=NC x) (AV.oneN N λn u=>?_) b;rw [step];unfold UH;rw [zAC Z2,zAG,zAE ⟨Z2,Z2⟩,u8,W n u,zAB,a]
   by_cases d:1<DR x j
   ·have B:Bh x (j+1)=(DR x j,j):=Z4
    have F:decide (Bh x (j+1)≠(0,0))=true:=zAC Z4
    grind
   grind
  ·obtain ⟨M,Y⟩:=rY (h.sm16 (Bh x j).2 Z2);have Y: ∀ n,M<=n -> SN n (x.getD (Bh x j).2 0)=some ((DR x (Bh x j).2:Nat):Int):=Y;have K:Bh x j≠(0,0):=λe=>by rw [e] at c;omega
   refine AV.ev (m:=NC x) (AV.oneN (max N M) λn u=>?_) b;rw [step];unfold UH;rw [zAC Z2,zAG,zAE ⟨Z2,Z2⟩,u8,W n Z2,zAB,a,zAC K]
   by_cases d:1<DR x j
   ·rw [zAC Z2,zAG,zLa,zAz,zAE ⟨Z2,Z2⟩,u8,Y n Z2,zAB,A]
    by_cases h5:DR x j<(Bh x j).1
    ·have B:Bh x (j+1)=(DR x j,j):=Z4
     have F:decide (Bh x (j+1)≠(0,0))=true:=zAC Z4
     grind
    grind
   grind
def zNj (h:A4 q x)(v:BJ x=false)(l:Cq x=none):Ev (λn=>O7 n x) (((Bh x x.length).2:Int),true):=by
 obtain ⟨a,_⟩:=zu h v l;have:=nl h x.length 0 Z2;rw [v,zEO Z6,zEO a,zAC a] at this;exact this
def oH {s:Nat}(l:s<16):RM n (s:Int)=some ((2 ^ s:Nat):Int):=by
 have e: ∀ s:Nat,s<16 -> RM 0 (s:Int)=some ((2 ^ s:Nat):Int):=Z6
 exact e s l
theorem zOn {x:Int}(d:Sm 16 x){s:Nat}(c:s<16):x=((2 ^ s:Nat):Int)↔B4 x 0= [s]:=by
 constructor
 ·intro e;have nd:=rn (x:=x) (i:=0)
  have all: ∀ i,i∈B4 x 0↔i=s:=λi=>by
   rw [QM,e];constructor
   ·rintro ⟨f,g⟩;rw [PX Z2] at g
    grind
   ·rintro rfl
    grind [PX]
  generalize B4 x 0=l at*
  match l with
  | []=>simp_all
  | [a]=>rw [(all a).1 Z3]
  | a::b::l=>
   have f:=(all a).1 Z3
   simp_all
 ·intro e
  have h:Sm 16 ((2 ^ s:Nat):Int):=by
   have: ∀ s:Nat,s<16 -> 0<=((2 ^ s:Nat):Int)/\ ((2 ^ s:Nat):Int)<2 ^ 16:=Z6
   exact this s c
  refine Hw (d.in64 Z6) (h.in64 Z6) λi hi=>?_
  rw [PX hi];rcases zKL i 16 with NA | NA
  ·have:i∈B4 x 0↔i=s:=by rw [e];simp
   grind [QM]
  ·rw [d.hi NA]
   grind
def Ea (x:Int):Nat:=match B4 x 0 with
 | [s]=>s
 | _=>16
def vi {x:Int}{s:Nat}(h:B4 x 0= [s]):Ea x=s/\ s<16:=⟨by unfold Ea;rw [h],Zc (by rw [h];simp)⟩
theorem vh {x:Int}(hx:Sm 16 x){i:Nat}(hi:i<16):(x != ((2 ^ i:Nat):Int))=decide (Ea x≠i):=by
 grind [zOn,Ea]
theorem iK {x:Int}{l:Ξ}:Cq (x::l)=if Ea x=16 then none else (Cq l).map λr=>(Ea x:Int)::r:=by
 have:Cq (x::l)=match B4 x 0 with
  | [s]=>(Cq l).map λr=>(s:Int)::r
  | _=>none:=rfl
 rw [this];unfold Ea;rcases h:B4 x 0 with _ | ⟨s,_ | ⟨b,l'⟩⟩
 ·rfl
 ·have:=Zc (x:=x) (s:=s) (by rw [h];simp)
  grind
 ·rfl
theorem rP {j:Nat}(h:A4 q x)(a:j<x.length){g:Ξ}{r:Ξ×Bool}(c:g.length<=256) 
 (b:Ea (x.getD j 0)≠16 -> Ev (λn=>C6 x n (.l3 (g.length+1) ((j:Int)+1) (g++[(Ea (x.getD j 0):Int)]))) r) (d:Ea (x.getD j 0)=16 -> r=([],false)):
 ∀ (k i:Nat),i+k=16 -> i<=Ea (x.getD j 0) -> Ev (λn=>C6 x n (.l4 g.length (j:Int) (i:Int) g)) r
 | 0,i,e,hi=>by
  have Z:=h.len256
  have nG:Ea (x.getD j 0)<=16:=by
   unfold Ea;split
   ·rename_i s l;exact Nat.le_of_lt (vi l).2
   ·exact zBT _
  rw [d Z2]
  simp_all [Ev.one,ZW,C6]
 | k+1,i,e,hi=>by
  have Z:=h.len256;have L:(1000000000000:Nat)=Av:=rfl
  have step: ∀ n,C6 x (n+1) (.l4 g.length (j:Int) (i:Int) g)=bif decide (Ea (x.getD j 0)≠i) then C6 x n (.l4 g.length (j:Int) ((i+1:Nat):Int) g) else C6 x n (.l3 (g.length+1) ((j:Int)+1) (g++[(i:Int)])):=λn=>by
   show ZW n (C6 x n) x g.length (j:Int) (i:Int) g=_
   unfold ZW;rw [zAC Z2,zAG,zAE ⟨Z2,Z2⟩,oH Z2,zAB,u8,vh (h.sm16 j a) Z2,zAE (Aa.2 ⟨Z2,Z2⟩),show ((i:Int)==16)=false from zJ8.2 Z2,zAz,zAE ⟨⟨⟨rfl,rfl⟩,⟨rfl,rfl⟩,Z7⟩,Aa.2 ⟨Z2,Z2⟩⟩,show ((i+1:Nat):Int)=(i:Int)+1 by omega];rfl
  by_cases l:Ea (x.getD j 0)=i
  ·refine AV.ev (m:=C6 x) (AV.one λn=>(step n).trans ?_) (b Z2)
   grind
  ·refine AV.ev (m:=C6 x) (AV.one λn=>(step n).trans ?_) (rP h a c b d k (i+1) Z2 Z2)
   grind
theorem rQ (h:A4 q x): ∀ (k j:Nat) (g:Ξ),j+k=x.length -> g.length=j -> Ev (λn=>C6 x n (.l3 g.length (j:Int) g)) (EV g (Cq (x.drop j)))
 | 0,j,g,e,f=>by
  simp_all [Ev.one,iJ,C6,Cq,EV]
 | k+1,j,g,e,f=>by
  have h256:=h.len256;have i:j<x.length:=Z2
  refine AV.ev (m:=C6 x) (b:=.l4 g.length (j:Int) 0 g) (AV.one λn=>?_) ?_
  ·simp_all [iJ,C6]
  rw [zR (d:=0) i,iK];refine rP h i Z2 (λa=>?_) (λa=>by rw [zAE a];rfl) 16 0 Z2 (zJs _);rw [zEO a];have c:=rQ h k (j+1) (g++[(Ea (x.getD j 0):Int)]) Z2 (by simp [f]);rw [zKH] at c;cases l:Cq (x.drop (j+1)) with
  | none=>rw [l] at c;exact c
  | some r=>
   grind [EV]
theorem rR (h:A4 q x): ∀ (k i:Nat),i+k=16 -> i<=Ea (x.getD 0 0) -> Ev (λn=>C6 x n (.l2 (i:Int))) (EV [] (Cq x))
 | 0,i,e,hi=>by
  have Z:=h.len256
  have b:Ea (x.getD 0 0)<=16:=by
   unfold Ea;split
   ·rename_i s a;exact Nat.le_of_lt (vi a).2
   ·exact zBT _
  obtain ⟨y,l,rfl⟩: ∃ y l,x=y::l:=by
   cases x with
   | nil=>simp at Z
   | cons y l=>exact ⟨y,l,rfl⟩
  have b:Ea y<=16:=b;have hi:i<=Ea y:=hi;rw [iK,zAE Z2];refine Ev.one λn=>?_
  grind [ZX,C6,EV]
 | k+1,i,e,hi=>by
  have Z:=h.len256;have L:(1000000000000:Nat)=Av:=rfl
  have step: ∀ n,C6 x (n+1) (.l2 (i:Int))=bif decide (Ea (x.getD 0 0)≠i) then C6 x n (.l2 ((i+1:Nat):Int)) else C6 x n (.l3 1 1 [(i:Int)]):=λn=>by
   show ZX n (C6 x n) x (i:Int)=_
   unfold ZX;rw [zAC Z2,zAG,zAE ⟨Z2,Z2⟩,oH Z2,zAB,vh (h.sm16 0 Z.1) Z2,zAE (Aa.2 ⟨Z2,Z2⟩),show ((i:Int)==16)=false from zJ8.2 Z2,zAz,zAE ⟨⟨rfl,rfl⟩,Z3,by rw [←L];simp⟩,show ((i+1:Nat):Int)=(i:Int)+1 by omega];rfl
  by_cases a:Ea (x.getD 0 0)=i
  ·have key:Ev (λn=>C6 x n (.l2 (i:Int))) (EV [(i:Int)] (Cq (x.drop 1))):=AV.ev (m:=C6 x) (AV.one λn=>(step n).trans Z4) (rQ h (x.length-1) 1 [(i:Int)] Z2 rfl)
   obtain ⟨y,l,rfl⟩: ∃ y l,x=y::l:=by
    cases x with
    | nil=>simp at Z
    | cons y l=>exact ⟨y,l,rfl⟩
   have S:Ea y=i:=a;have key:Ev _ (EV [(i:Int)] (Cq l)):=key;rw [iK,zEO Z2,S];cases o:Cq l <;> (rw [o] at key;exact key)
  ·refine AV.ev (m:=C6 x) (AV.one λn=>(step n).trans ?_) (rR h k (i+1) Z2 Z2)
   grind
theorem rI (h:A4 q x):Ev (λn=>SL n x) (EV [] (Cq x)):=by
 have h256:=h.len256;refine Ev.eq (g:=λn=>C6 x n .l1) (AV.ev (m:=C6 x) (b:=.l2 0) (AV.one λn=>?_) (rR h 16 0 Z2 (zJs _))) λn=>rfl
 simp_all [rL,C6]
end
section
variable {most fuel:Int} {t:NT} {gs:List Ξ} {n m:Nat} {q:AA} {p x o:Ξ} {c s:Nat}
theorem zMz (h:A4 q x)(a:c<x.length)(hs:s<q.sy.toNat):Ev (λn=>Xi n q x (c:Int) (s:Int)) (II x c s,0):=by
 have h256:=h.len256;have hk:=h.k;have Ag:=h.len;have L:(1000000000000:Nat)=Av:=rfl;have lb:(256:Nat)<=LB:=Z6
 have h0:CB q x=0:=h.check;obtain ⟨N,W⟩:=Nq h.fit (pos:=x) Z2;have W: ∀ n,N<=n -> HV n q x=some 0:=λn u=>by rw [←h0];exact W n u
 have e:bits .and .i64 (x.getD c 0) ((2 ^ s:Nat):Int)=IntKind.i64.wrap (bits .and .u64 (IntKind.u64.wrap (x.getD c 0)) (IntKind.u64.wrap (1*2 ^ s))):=
  Hw (Dh _ _ _) (Yv _) λi hi=>by grind [FE,qR,PX]
 refine ⟨N+300,λn u=>?_⟩
 show (RM n (s:Int)).bind _=_
 rw [oH Z2,zAB]
 show (fS n q x (c:Int) (s:Int) ((2 ^ s:Nat):Int)).bind _=_
 unfold fS;rw [W n Z2,zAB]
 show (bif decide ((c:Int)<0) then _ else _:W6).bind _=_
 rw [zAF Z2,zAz,zAF Z2,zAz,zAF Z2,zAz,zAF Z2,zAz,u8,zJv,zAE ⟨⟨trivial,Z2,Z2⟩,⟨Z2,Z2⟩,a⟩,zAE Z3,e]
 show ((cH n (Lt x c s)).bind _).bind _=_
 have hl:(Lt x c s).length=x.length:=by simp [Lt]
 unfold cH;rw [MU Z2 Z2,zAB];unfold II
 grind
variable {W:List Ξ}{t0:NT}{g:Ξ}{j:Nat}
def q9 (h:A4 q x)(b:c<x.length)(hj:j<q.sy.toNat):Fc (D9 m) g q most fuel false t0 W (n+1) (.l2 x (c:Int) (j:Int) false t gs)=
 bif !tb (x.getD c 0) j then Fc (D9 m) g q most fuel false t0 W n (.l2 x (c:Int) ((j+1:Nat):Int) false t gs) else (Xi n q x (c:Int) (j:Int)).bind λe=>(D9 m e.1 q most fuel false t gs).bind λa=>
  bif (!a.1) then some (false,a.2.1,a.2.2.1,a.2.2.2) else Fc (D9 m) g q most fuel false t0 W n (.l2 x (c:Int) ((j+1:Nat):Int) a.2.1 a.2.2.1 a.2.2.2):=by
 have hk:=h.k;have d:=h.sm c b;have f:IntKind.u64.wrap (j:Int)=(j:Int):=by rw [zOv];omega
 have r:AG ((j:Int)+1):=Aa.2 ⟨Z2,Z2⟩
 show Zf n (D9 m) (Fc (D9 m) g q most fuel false t0 W n) g q most fuel false t0 W x (c:Int) (j:Int) false t gs=_
 unfold Zf;rw [zAC Z2,zAG,f,zAE ⟨⟨Z2,Z2⟩,Z2,by show (j:Int)<=((64:Nat):Int);omega⟩,u8,u8,rh d Z2 Z2,show ((j+1:Nat):Int)=(j:Int)+1 by omega];simp only [zAE r]
theorem zNd (hj:(j:Int)=q.sy):Fc (D9 m) g q most fuel false t0 W (n+1) (.l2 x (c:Int) (j:Int) false t gs)=some (true,false,t,gs):=by
 simp_all [Zf,Fc]
def iL (h:A4 q x)(a:c<x.length){S:Nat}(d:S<=q.sy.toNat): ∀ (k j:Nat),j+k=S -> (∀ i,j<=i -> i<S -> tb (x.getD c 0) i=false) ->
 Fc (D9 m) g q most fuel false t0 W (n+k) (.l2 x (c:Int) (j:Int) false t gs)=Fc (D9 m) g q most fuel false t0 W n (.l2 x (c:Int) (S:Int) false t gs)
 | 0,j,e,_=>by rw [show j=S by omega];rfl
 | k+1,j,e,b=>by
  rw [show n+(k+1)=n+k+1 by omega,q9 h a Z2,b j Z2 Z2,zLd,zAG];exact iL h a d k (j+1) Z2 λi h1 f=>b i Z2 f
theorem iS {x:Int}: ∀ (k j:Nat),j+k=16 -> (∀ s ss,B4 x j=s::ss -> j<=s/\ s<16/\ tb x s=true/\ (∀ i,j<=i -> i<s -> tb x i=false)/\ ss=B4 x (s+1))/\ (B4 x j= [] -> ∀ i,j<=i -> i<16 -> tb x i=false)
 | 0,j,e=>by
  grind [zCi]
 | k+1,j,e=>by
  obtain ⟨h1,h2⟩:=iS (x:=x) k (j+1) Z2;rw [iT Z2]
  grind
variable {N:Nat}{rest:List BP}
theorem uw (O:fuel<=16777216)(y:o.length<=20000)(l: ∀ t0 gs t n m,gs.length<=t.length -> N<=n -> N<=m -> Fc (D9 m) p q most fuel false t0 gs n (.l1 o x (o.length:Int) false t)=some (Cv most fuel rest t gs)):
 ∀ (k j:Nat),j+k=o.length -> ∀ t0 gs t n m,gs.length<=t.length -> N+k<=n -> N<=m -> Fc (D9 m) p q most fuel false t0 gs n (.l1 o x (j:Int) false t)=some (Cv most fuel ((o.drop j).map KC++rest) t gs)
 | 0,j,e,t0,gs,t,n,m,a,u,z=>by
  grind
 | k+1,j,e,t0,gs,t,n,m,a,u,z=>by
  obtain ⟨n,rfl⟩: ∃ k,n=k+1:=⟨n-1,Z2⟩;have i:j<o.length:=Z2
  have ih:=uw O y l k (j+1) Z2 t0 gs (t++[(1,o.getD j 0)]) n m Z7 Z2 z
  show Zg n (D9 m) (Fc (D9 m) p q most fuel false t0 gs n) p q most fuel false t0 gs o x (j:Int) false t=_
  unfold Zg;rw [zAC Z2,zAG,zAE ⟨Z2,Z2⟩,Yz O,zAB,u8,zAE (Aa.2 ⟨Z2,Z2⟩),zR (d:=0) i,zMS,zQM,Cv]
  by_cases h:fuel<=(t.length:Int)
  ·rw [zAE h,zAE h];rfl
  simp_all [zEO,KC]
def zPP (f:A4 q p)(h:Fa q 4 p x):Ev (λn=>Uf n q p 4) (x,0):=by
 obtain ⟨⟨y,e⟩,b,c⟩:=zPQ (level:=4) f.fit (zA4 f.len256.2 Z6);rcases c with ⟨a,_⟩ | ⟨_,a,_⟩ | ⟨_,_,a,A⟩
 ·exact absurd f.check a
 ·cases a
 have a:e=0:=a;have A:Fa q 4 p y:=A;rw [a,A.uniq f h] at b;exact b
def zHn (f:A4 q p)(h:Hu q p 4 (o,0)):Ev (λn=>QC n q p 4) (o,0):=by
 obtain ⟨r,a,b⟩:=zHo (level:=4) f.fit (zA4 f.len256.2 Z6);rw [b.uniq h] at a;exact a
def kH (O:fuel<=16777216)(f:A4 q p)(a:Hu q p 4 (o,0))(b:Fa q 4 p x)(l: ∀ t0 gs t n m,gs.length<=t.length -> N<=n -> N<=m -> Fc (D9 m) p q most fuel false t0 gs n (.l1 o x (o.length:Int) false t)=some (Cv most fuel rest t gs)):
 ∃ N,∀ t gs n,gs.length<=t.length -> N<=n -> D9 n p q most fuel false t gs=some (Cv most fuel (o.map KC++rest) t gs):=by
 obtain ⟨A,E⟩:=zHn f a;obtain ⟨B,H⟩:=zPP f b;refine ⟨A+B+N+o.length+1,λt gs n c hn=>?_⟩;obtain ⟨n,rfl⟩: ∃ k,n=k+1:=⟨n-1,Z2⟩
 show (QC n q p 4).bind _=_
 rw [show QC n q p 4=_ from E n Z2,zAB,show Uf n q p 4=_ from H n Z2,zAB];have y:o.length<=20000:=(a.zero f).2;exact uw O y l o.length 0 Z2 t gs t n n c Z2 Z2
theorem kb :Fc (D9 m) g q most fuel false t0 gs (n+1) (.l1 o x (o.length:Int) false t)=(LN n x).bind λe=>bif e then (Jo n 3 0 q most fuel false t gs).bind λa=>some (a.1,a.2.1,a.2.2,gs) else
 (SL n x).bind λa=>bif a.2 then (Jo n 4 0 q most fuel false t gs).bind λy3=>bif (!y3.1) then some (false,y3.2.1,y3.2.2,gs) else (if gs.length+([a.1]:List Ξ).length<=Av then some ((decide ((((gs++([a.1]:List Ξ)).length:Nat):Int)<most)),y3.2.1,y3.2.2,(gs++([a.1]:List Ξ))) else none) else
  (O7 n x).bind λy3=>(Jo n 2 y3.1 q most fuel false t gs).bind λb=>bif (!b.1) then some (false,b.2.1,b.2.2,gs) else Fc (D9 m) g q most fuel false t0 gs n (.l2 x y3.1 0 b.2.1 b.2.2 gs):=by
 simp_all [Zg,Fc]
theorem s29 (O:fuel<=16777216){a:Option (Nat×Θ)}{l:List BP}(h:Sr q a p l):A4 q p -> match a with
 | none=>∃ N,∀ t gs n,gs.length<=t.length -> N<=n -> D9 n p q most fuel false t gs=some (Cv most fuel l t gs)
 | some (c,ss)=>c<p.length -> ∀ j:Nat,j<=q.sy.toNat -> ss=B4 (p.getD c 0) j -> ∃ N,∀ G t0 W t gs n m,gs.length<=t.length -> N<=n -> N<=m -> Fc (D9 m) G q most fuel false t0 W n (.l2 p (c:Int) (j:Int) false t gs)=some (Cv most fuel l t gs):=by
 have L:(1000000000000:Nat)=Av:=rfl
 induction h with
 | @dead p x o u d v=>
  intro f;have e:=(d.posn f).1;have Z:=e.len256;refine kH O f u d (N:=301) λt0 gs t n m w y z=>?_
  obtain ⟨n,rfl⟩: ∃ k,n=k+1:=⟨n-1,Z2⟩;rw [kb,MU Z.2 Z2,zAB,v,zAG,Yz O,zAB]
  grind [Cv]
 | @done p x o g u d v E=>
  intro f;have e:=(d.posn f).1;have Z:=e.len256;obtain ⟨S,H⟩:=rI e;refine kH O f u d (N:=301+S) λt0 gs t n m w y z=>?_
  obtain ⟨n,rfl⟩: ∃ k,n=k+1:=⟨n-1,Z2⟩;rw [kb,MU Z.2 Z2,zAB,v,zAz,show SL n x=_ from H n Z2,zAB,E]
  show (Jo n 4 0 q most fuel false t gs).bind _=_
  rw [Yz O,zAB]
  grind [EV,Cv]
 | @split p x o c l u d v E J K h7 _ P=>
  intro f;have e:=(d.posn f).1;have Z:=e.len256;obtain ⟨S,H⟩:=rI e;obtain ⟨D,Q⟩:=zNj e v E;obtain ⟨M,hM⟩:=P e K 0 (zJs _) rfl;refine kH O f u d (N:=301+S+D+M) λt0 gs t n m w y z=>?_
  obtain ⟨n,rfl⟩: ∃ k,n=k+1:=⟨n-1,Z2⟩;rw [kb,MU Z.2 Z2,zAB,v,zAz,show SL n x=_ from H n Z2,zAB,E]
  show (O7 n x).bind _=_
  rw [show O7 n x=_ from Q n Z2,zAB,Yz O,zAB,←J]
  grind [Cv]
 | @nil x c=>
  intro f r j T I;have hk:=f.k;have U:=(iS (x:=x.getD c 0) (16-j) j Z2).2 I.symm;have V:((q.sy.toNat:Nat):Int)=q.sy:=by have:=(Dl f.valid).2.1;omega
  refine ⟨q.sy.toNat+1,λG t0 W t gs n m w y z=>?_⟩;obtain ⟨n,rfl⟩: ∃ k,n=k+1+(q.sy.toNat-j):=⟨n-1-(q.sy.toNat-j),Z2⟩;rw [iL f r (zBT _) (q.sy.toNat-j) j Z2 λi u d=>U i u Z2,zNd V];rfl
 | @cons x c s ss a b _ _ X Y=>
  intro f r j T I;have hk:=f.k;obtain ⟨g1,g2,R,g4,g5⟩:=(iS (x:=x.getD c 0) (16-j) j Z2).1 s ss I.symm;have F:s<q.sy.toNat:=zJq λBc=>by rw [(f.sm c r).hi Bc] at R;cases R
  obtain ⟨A,hA⟩:=X (f.fx r F);obtain ⟨B,hB⟩:=Y f r (s+1) Z2 g5;obtain ⟨C,hC⟩:=zMz f r F;refine ⟨A+B+C+1+(s-j),λG t0 W t gs n m w y z=>?_⟩;obtain ⟨n,rfl⟩: ∃ k,n=k+1+(s-j):=⟨n-1-(s-j),Z2⟩;rw [iL f r (Nat.le_of_lt F) (s-j) j Z2 g4,q9 f r F,R,zLa,zAz,show Xi n q x (c:Int) (s:Int)=_ from hC n Z2,zAB,hA t gs m w Z2,zAB,nF];obtain ⟨k1,k2⟩:=nE (most:=most) (fuel:=fuel) a t gs w
  grind
end
theorem zCv {a b:Ξ}{n:Nat}(hl:a.length<=LB)(u:a.length<n):same n a b=some (decide (a=b)):=by
 have hb:LB<=9223372036854775806:=Z6
 unfold same sD
 by_cases G:a.length=b.length
 ·have e:((a.length:Int) != (b.length:Int))=false:=by rw [G];simp
  rw [e,zAz]
  have key: ∀ (k i n:Nat),i+k=a.length -> k+1<=n -> SS a b n (.l1 (i:Int))=some (decide (a.drop i=b.drop i)):=by
   intro k
   induction k with
   | zero=>
    intro i n e u;obtain ⟨n,rfl⟩: ∃ k,n=k+1:=⟨n-1,Z2⟩
    simp_all [Zl,SS]
   | succ k c=>
    intro i n e u;obtain ⟨n,rfl⟩: ∃ k,n=k+1:=⟨n-1,Z2⟩;have hi:i<a.length:=Z2
    have U:i<b.length:=Z2
    have d: ∀ {l:Ξ},i<l.length -> l.drop i=l.getD i 0::l.drop (i+1):=λ{l} h=>by
     simp_all
    have:=c (i+1) n Z2 Z2
    show Zl n (SS a b n) a b (i:Int)=_
    unfold Zl;rw [zAC Z2,zAG,zAE ⟨⟨Z2,Z2⟩,Z2,Z2⟩,u8,zAE (Aa.2 ⟨Z2,Z2⟩),d hi,d U]
    by_cases h:a.getD i 0=b.getD i 0
    ·have:(a.getD i 0 != b.getD i 0)=false:=by rw [h];simp
     rw [this,zAz];refine Eq.trans (by assumption) ?_;rw [h];simp
    ·have:(a.getD i 0 != b.getD i 0)=true:=by simpa using h
     rw [this,zAG,zAF λe=>h (List.cons.inj e).1]
  grind
 ·have e:((a.length:Int) != (b.length:Int))=true:=Z7
  rw [e,zAG,zAF λh=>G (by rw [h])]
section
variable {n:Nat}
theorem zC5 {a b:List Ξ}(hl:a.length<=LB)(c: ∀ x∈a,x.length<=300)(u:a.length+301<n):I9 n a b=some (decide (a=b)):=by
 have hb:LB<=9223372036854775806:=Z6
 unfold I9 sI
 by_cases G:a.length=b.length
 ·have e:((a.length:Int) != (b.length:Int))=false:=by rw [G];simp
  rw [e,zAz]
  have key: ∀ (k i n:Nat),i+k=a.length -> k+302<=n -> SW a b n (.l1 (i:Int))=some (decide (a.drop i=b.drop i)):=by
   intro k
   induction k with
   | zero=>
    intro i n e u;obtain ⟨n,rfl⟩: ∃ k,n=k+1:=⟨n-1,Z2⟩
    simp_all [Zq,SW]
   | succ k f=>
    intro i n e u;obtain ⟨n,rfl⟩: ∃ k,n=k+1:=⟨n-1,Z2⟩;have hi:i<a.length:=Z2
    have U:i<b.length:=Z2
    have d: ∀ {l:List Ξ},i<l.length -> l.drop i=l.getD i []::l.drop (i+1):=λ{l} h=>by
     simp_all
    have z:a.getD i []∈a:=by
     grind
    have g:=c _ z;have:=f (i+1) n Z2 Z2
    show Zq n (SW a b n) a b (i:Int)=_
    unfold Zq;rw [zAC Z2,zAG,zAE ⟨⟨Z2,Z2⟩,Z2,Z2⟩,u8,zCv (zA4 g Z6) Z2,zAB,d hi,d U]
    by_cases h:a.getD i []=b.getD i []
    ·rw [zAC h,zLa,zAz,zAE (Aa.2 ⟨Z2,Z2⟩),show (i:Int)+1=((i+1:Nat):Int) by omega,this,h];simp
    ·rw [zAF h,zLd,zAG]
     grind [List.cons.inj]
  grind
 ·have e:((a.length:Int) != (b.length:Int))=true:=by simpa using λh=>G Z2
  rw [e,zAG]
  congr 1
  grind
theorem zCy {a b:List (Δ)}(hl:a.length<=LB)(c:a.length<n):LA n a b=some (decide (a=b)):=by
 have f:LB<=9223372036854775806:=Z6
 unfold LA sG
 by_cases G:a.length=b.length
 ·have e:((a.length:Int) != (b.length:Int))=false:=by rw [G];simp
  rw [e,zAz]
  have key: ∀ (k i n:Nat),i+k=a.length -> k+1<=n -> SU a b n (.l1 (i:Int))=some (decide (a.drop i=b.drop i)):=by
   intro k
   induction k with
   | zero=>
    intro i n e c;obtain ⟨n,rfl⟩: ∃ k,n=k+1:=⟨n-1,Z2⟩
    simp_all [Zm,SU]
   | succ k g=>
    intro i n e c;obtain ⟨n,rfl⟩: ∃ k,n=k+1:=⟨n-1,Z2⟩;have hi:i<a.length:=Z2
    have U:i<b.length:=Z2
    have d: ∀ {l:List (Δ)},i<l.length -> l.drop i=l.getD i default::l.drop (i+1):=λ{l} h=>by
     simp_all
    have:=g (i+1) n Z2 Z2
    show Zm n (SU a b n) a b (i:Int)=_
    unfold Zm;rw [zAC Z2,zAG,zAE ⟨⟨Z2,Z2⟩,Z2,Z2⟩,u8,d hi,d U]
    generalize a.getD i default=u
    generalize b.getD i default=v
    obtain ⟨r,T⟩:=u;obtain ⟨F,O⟩:=v
    by_cases h:r=F/\ T=O
    ·obtain ⟨rfl,rfl⟩:=h;simp only [zP0,Bool.and_self,zLa,zAz];rw [zAE (Aa.2 ⟨Z2,Z2⟩),show (i:Int)+1=((i+1:Nat):Int) by omega,this]
     simp_all
    ·have f:(!(r==F&&(T==O&&true)))=true:=by
      grind
     rw [f,zAG]
     simp_all
  grind
 ·have e:((a.length:Int) != (b.length:Int))=true:=by simpa using λh=>G Z2
  rw [e,zAG]
  congr 1
  grind
end
section
def sC:Ev SR true:=⟨300,λn hn=>by
 obtain ⟨k,rfl⟩: ∃ k,n=k+300:=⟨n-300,Z2⟩
 show SR (k+300)=some true
 kernel_rfl⟩
variable {most:Int}
def lR : ∀ (l:List BP) (gs:List Ξ) (t:List (Δ)),∀ g∈(B1 most l gs t).1,g∈gs∨∃ x∈l,g=x.2
 | [],gs,t,g,h=>.inl h
 | x::l,gs,t,g,h=>by
  have J:g∈gs++[x.2] -> g∈gs∨∃ y∈x::l,g=y.2:=λh=>(zLW.1 h).imp id λh=>⟨x,zLb,zMJ.1 h⟩
  have up:(∃ y∈l,g=y.2) -> ∃ y∈x::l,g=y.2:=λ⟨y,a,b⟩=>⟨y,zKA _ a,b⟩
  unfold B1 at h;split at h
  ·split at h
   ·exact J h
   ·exact (lR l _ _ g h).elim J λh=>.inr (up h)
  ·exact (lR l _ _ g h).imp id up
theorem lU : ∀ (l:List BP) (gs:List Ξ) (t:List (Δ)),gs.length<=t.length -> (B1 most l gs t).1.length<=(B1 most l gs t).2.1.length
 | [],gs,t,h=>h
 | x::l,gs,t,h=>by
  unfold B1;split
  ·split
   ·grind
   ·exact lU l _ _ (by simp;exact h)
  ·exact lU l _ _ Z7
section
variable {q:AA} {p:Ξ}
def Fa.len (f:A4 q p){x:Ξ}(h:Fa q 4 p x):x.length<=256:=(h.posn f).1.len256.2
theorem Sr.short {m:Option (Nat×Θ)}{l:List BP}(h:Sr q m p l):A4 q p -> (∀ c ss,m=some (c,ss) -> c<p.length/\ ∀ s∈ss,s<q.sy.toNat) -> ∀ y∈l,y.2.length<=256:=by
 have g: ∀ {o:Ξ} {y:BP},y∈o.map KC -> y.2.length<=256:=λh=>by
  grind [KC]
 induction h with
 | dead _ _ _=>
  grind
 | done _ d _ A=>
  intro f _ y hy;rcases zLW.1 hy with hy | hy
  ·exact g hy
  ·rw [zMJ.1 hy];rw [rT A];exact d.len f
 | @split p x o c l h1 d h3 A h5 r h7 _ j=>
  intro f _ y hy;have i:=(d.posn f).1;rcases zLW.1 hy with hy | hy
  ·exact g hy
  ·rcases zKP.1 hy with rfl | hy
   ·exact zJs _
   ·refine j i (λu ss e=>?_) y hy;cases e;refine ⟨r,λs k=>zJq λw=>?_⟩;have:=(QM.1 k).2;rw [(i.sm c r).hi w] at this;cases this
 | nil=>intro _ _ y hy;cases hy
 | @cons x c s ss a b _ _ n t=>
  intro f v y hy;obtain ⟨z,B⟩:=v c (s::ss) rfl;rcases zLW.1 hy with hy | hy
  ·exact n (f.fx z (B s zLb)) (λ_ _ e=>by cases e) y hy
  ·exact t f (λu ss' e=>Z4) y hy
end
end
section
variable {most fuel:Int} {q:AA} {p pos:Ξ}
def lT: ∀ (l:List BP) (gs:List Ξ) (t:NT),(gs.length:Int)<most -> (B1 most l gs t).2.2=false -> ((B1 most l gs t).1.length:Int)<most
 | [],gs,t,n,_=>n
 | x::l,gs,t,n,h=>by
  rw [B1] at h ⊢
  by_cases A:x.1.1=4
  ·rw [zAE A] at h ⊢
   by_cases a:((gs++[x.2]).length:Int)=most
   ·rw [zAE a] at h;cases h
   ·rw [zEO a] at h ⊢;exact lT l _ _ (by simp at a ⊢;omega) h
  ·rw [zEO A] at h ⊢;exact lT l _ _ n h
def dz: ∀ (l:List BP) (t:NT) (gs:List Ξ),(gs.length:Int)<most -> (t.length:Int)<=fuel ->
 (((B1 most l gs t).2.1.length:Int)<=fuel -> Cv most fuel l t gs=(!(B1 most l gs t).2.2,false,(B1 most l gs t).2.1,(B1 most l gs t).1))/\ (fuel<((B1 most l gs t).2.1.length:Int) -> (Cv most fuel l t gs).2.1=true)
 | [],t,gs,n,V=>⟨λ_=>rfl,λh=>absurd V (by simp only [B1] at h;omega)⟩
 | x::l,t,gs,n,V=>by
  have hl:=(dL (most:=most) (x::l) gs t).2 Z3
  by_cases O:fuel<=(t.length:Int)
  ·rw [Cv,zAE O];exact ⟨λh=>Z2,λ_=>rfl⟩
  ·have w:((t++[x.1]).length:Int)<=fuel:=Z7
   rw [Cv,zEO O,B1]
   by_cases A:x.1.1=4
   ·rw [zAE A,zAE A]
    by_cases a:((gs++[x.2]).length:Int)=most
    ·rw [zAE a,zEO Z2];exact ⟨λ_=>rfl,λh=>absurd w (by have h:fuel<((t++[x.1]).length:Int):=h;omega)⟩
    ·have r:((gs++[x.2]).length:Int)<most:=by simp at a ⊢;omega
     rw [zEO a,zAE r];exact dz l _ _ r w
   ·rw [zEO A,zEO A];exact dz l _ _ n w
variable {f:Nat}{l:List BP}
def sw (a:A4 q p)(h:Sr q none p l)(hf:f<=16777216):Ev (λn=>Sc n q p most (f:Int)) (q,most,(f:Int),(Cv most f l [] []).2.2.1,(Cv most f l [] []).2.2.2,(Cv most f l [] []).2.1):=by
 obtain ⟨N,W⟩:=s29 (most:=most) (fuel:=(f:Int)) Z2 h a;refine ⟨N,λn u=>?_⟩
 show (D9 n p q most (f:Int) false [] []).bind _=_
 rw [W [] [] n (zBT _) u];rfl
def eL (most:Int)(l:List BP)(f:Nat):List Ξ×List (Δ)×Int:=match KF most l f with
 | none=>([],[],220)
 | some r=>(r.1,if r.2.2 then [] else r.2.1,0)
def zNJ (a:A4 q p)(h:Sr q none p l)(hf:f<=65536):Ev (λn=>Kj n q p (f:Int)) (eL 2 l f):=by
 obtain ⟨M,Y⟩:=Nq a.fit (pos:=p) (zA4 a.len256.2 Z6);obtain ⟨N,W⟩:=sw (most:=2) a h (f:=f) Z2;rw [a.check] at Y;refine ⟨max M N,λn hn=>?_⟩
 show (HV n q p).bind _=_
 rw [show HV n q p=some 0 from Y n Z2,zAB]
 show (bif decide ((f:Int)<0) then _ else _)=_
 rw [zAF Z2,zAz,zAF Z2,zAz,zEO Z2,show Sc n q p 2 (f:Int)=_ from W n Z2,zAB];obtain ⟨c,d⟩:=dz (most:=2) (fuel:=(f:Int)) l [] [] Z6 Z3;unfold eL KF
 by_cases hk:(B1 2 l [] []).2.1.length<=f
 ·rw [zAE hk,c Z2]
  show (bif (((B1 2 l [] []).1.length:Int)==2) then some ((B1 2 l [] []).1,[],(0:Int)) else some ((B1 2 l [] []).1,(B1 2 l [] []).2.1,0))=some ((B1 2 l [] []).1,if (B1 2 l [] []).2.2=true then [] else (B1 2 l [] []).2.1,0)
  have j:=lT (most:=2) l [] [] Z6;have b:=lS (most:=2) l [] [];revert j b;cases (B1 2 l [] []).2.2 with
  | true=>intro _ b;rw [b rfl];rfl
  | false=>intro j _;rw [show (((B1 2 l [] []).1.length:Int)==2)=false from zJ8.2 (by have:=j rfl;omega)];rfl
 ·rw [zEO hk]
  show (bif (Cv 2 f l [] []).2.1 then bif decide ((f:Int)>65536) then _ else _ else _)=_
  rw [d Z2,zAG,zAF Z2];rfl
def zIZ (a:A4 q p)(h:Sr q none p l)(hm:1<=most/\ most<=65536)(O:f<=16777216):Ev (λn=>Mj n q p most (f:Int)) (match KF most l f with | none=>(0,220) | some r=>((r.1.length:Int),0)):=by
 obtain ⟨M,Y⟩:=Nq a.fit (pos:=p) (zA4 a.len256.2 Z6);obtain ⟨N,W⟩:=sw (most:=most) a h (f:=f) O;rw [a.check] at Y;refine ⟨max M N,λn hn=>?_⟩
 show (HV n q p).bind _=_
 rw [show HV n q p=some 0 from Y n Z2,zAB]
 show (bif decide (most<1) then _ else _)=_
 rw [zAF Z2,zAz,zAF Z2,zAz,zAF Z2,zAz,zAF Z2,zAz,show Sc n q p most (f:Int)=_ from W n Z2,zAB];obtain ⟨b,c⟩:=dz (most:=most) (fuel:=(f:Int)) l [] [] Z7 Z3;unfold KF
 by_cases hk:(B1 most l [] []).2.1.length<=f
 ·rw [zAE hk,b Z2];rfl
 ·rw [zEO hk]
  show (bif (Cv most f l [] []).2.1 then _ else _)=_
  rw [c Z2];rfl
def zNF (S:Cm q)(o:pos.length<=LB)(hf:fuel<=1000∨16777216<fuel): ∃ R,Ev (λn=>HE n q pos fuel) R/\ Ev (λn=>Kj n q pos fuel) R/\ R.1.length<=LB/\ (∀ g∈R.1,g.length<=300)/\ R.2.1.length<=LB:=by
 have y: ∀ e,Ev (λn=>HE n q pos fuel) ([],[],e) -> Ev (λn=>Kj n q pos fuel) ([],[],e) -> ∃ R,Ev (λn=>HE n q pos fuel) R/\ Ev (λn=>Kj n q pos fuel) R/\ R.1.length<=LB/\ (∀ g∈R.1,g.length<=300)/\ R.2.1.length<=LB:=λe i j=>⟨_,i,j,zJs _,λg c=>(by cases c),zJs _⟩
 have a:=QA S o;have b:=Nq S o
 by_cases h0:CB q pos=0
 ·have d:=A4.of S h0;rw [h0] at a b
  by_cases i:0<=fuel/\ fuel<=1000
  ·obtain ⟨f,rfl⟩: ∃ f:Nat,fuel=(f:Int):=⟨fuel.toNat,Z2⟩;obtain ⟨l,u,k⟩:=vq d;have F:=zNE d k (f:=f) Z2;refine ⟨eL 2 l f,F,zNJ d u Z2,?_⟩;have hL:(1000:Nat)<=LB:=Z6
   have hG:=lU (most:=2) l [] [] (zBT _);unfold eL KF
   by_cases hk:(B1 2 l [] []).2.1.length<=f
   ·rw [zAE hk];refine ⟨by show (B1 2 l [] []).1.length<=LB;omega,λg c=>?_,?_⟩
    ·rcases lR l [] [] g c with h | ⟨x,h,rfl⟩
     ·cases h
     ·exact zA4 (u.short d (λ_ _ e=>by cases e) x h) Z6
    ·show (if (B1 2 l [] []).2.2 then [] else (B1 2 l [] []).2.1).length<=LB
     split
     ·exact zJs _
     ·omega
   ·rw [zEO hk];exact ⟨zJs _,λg c=>(by cases c),zJs _⟩
  ·refine y 1 (Ev.bind a (Ev.now λn=>?_)) (Ev.bind b (Ev.now λn=>?_))
   ·show (bif decide (fuel<0) then _ else bif decide (fuel>16777216) then _ else _)=_
    rcases Int.lt_or_le fuel 0 with h | h
    ·rw [zAC h];rfl
    ·rw [zAF Z2,zAC Z2];rfl
   ·show (bif decide (fuel<0) then _ else bif decide (fuel>16777216) then _ else _)=_
    rcases Int.lt_or_le fuel 0 with h | h
    ·rw [zAC h];rfl
    ·rw [zAF Z2,zAC Z2];rfl
 ·refine y (CB q pos) (Ev.bind a (Ev.now λn=>?_)) (Ev.bind b (Ev.now λn=>?_))
  ·show (bif (CB q pos != 0) then _ else _)=_
   rw [UU h0];rfl
  ·show (bif (CB q pos != 0) then _ else _)=_
   rw [UU h0];rfl
def zIz (q:AA)(pos:Ξ)(fuel:Int)(S:Cm q)(c:NQ q)(o:pos.length<=LB):Ev (λn=>ka n q pos fuel) true:=by
 obtain ⟨b,K,_⟩:=zB S c;refine Ev.bind sC (Ev.bind K ?_);cases b with
 | false=>exact Ev.now λn=>rfl
 | true=>
  have key:fuel<=1000∨16777216<fuel -> Ev (λn=>(HE n q pos fuel).bind λy3=>(Kj n q pos fuel).bind λm=>(I9 n y3.1 m.1).bind λa=>bif a then (LA n y3.2.1 m.2.1).bind λd=>bif d then some (y3.2.2==m.2.2) else some false else some false) true:=λO=>by
   obtain ⟨R,r,U,e,V,f⟩:=zNF (pos:=pos) S o O
   have i:Ev (λn=>I9 n R.1 R.1) true:=⟨R.1.length+302,λn u=>by
    show I9 n R.1 R.1=_
    rw [zC5 e V Z2,zAC rfl]⟩
   have X:Ev (λn=>LA n R.2.1 R.2.1) true:=⟨R.2.1.length+1,λn u=>by
    show LA n R.2.1 R.2.1=_
    rw [zCy f Z2,zAC rfl]⟩
   exact Ev.bind r (Ev.bind U (Ev.bind i (Ev.bind X (Ev.now λn=>by rw [zAG,zP0]))))
  refine Ev.eq (g:=λn=>bif decide (fuel>1000) then bif decide (fuel<=16777216) then some true else (HE n q pos fuel).bind λy3=>(Kj n q pos fuel).bind λm=>(I9 n y3.1 m.1).bind λa=>bif a then (LA n y3.2.1 m.2.1).bind λd=>bif d then some (y3.2.2==m.2.2) else some false else some false
   else (HE n q pos fuel).bind λy3=>(Kj n q pos fuel).bind λm=>(I9 n y3.1 m.1).bind λa=>bif a then (LA n y3.2.1 m.2.1).bind λd=>bif d then some (y3.2.2==m.2.2) else some false else some false) ?_ λn=>rfl
  by_cases h:fuel>1000
  ·rw [zAC h]
   by_cases A:fuel<=16777216
   ·rw [zAC A];exact Ev.now λn=>rfl
   ·rw [zAF A];exact key (.inr Z2)
  ·rw [zAF h];exact key (.inl Z2)
def zOO (S:Cm q)(o:pos.length<=LB): ∃ R,Ev (λn=>NE n q pos) R/\ Ev (λn=>PB n q pos) R:=by
 have a:=QA S o;have b:=Nq S o
 by_cases h0:CB q pos=0
 ·have f:=A4.of S h0;rw [h0] at a b;have c:=zo f;have d:=nl f pos.length 0 Z2
  have e:(if BJ pos then (0,false) else (if Bh pos pos.length=(0,0) then 0 else ((Bh pos pos.length).2:Int),decide (Bh pos pos.length≠(0,0))))=if BJ pos then (0,false) else (((Bh pos pos.length).2:Int),decide (Bh pos pos.length≠(0,0))):=by
   by_cases h:Bh pos pos.length=(0,0)
   ·rw [h];rfl
   ·rw [zEO h]
  rw [e] at d;exact ⟨_,Ev.bind a (Ev.bind c (Ev.now λn=>rfl)),Ev.bind b (Ev.bind (a:=λn=>O7 n pos) d (Ev.now λn=>rfl))⟩
 ·refine ⟨(0,false,CB q pos),Ev.bind a (Ev.now λn=>?_),Ev.bind b (Ev.now λn=>?_)⟩
  ·show (bif (CB q pos != 0) then _ else _)=_
   rw [UU h0];rfl
  ·show (bif (CB q pos != 0) then _ else _)=_
   rw [UU h0];rfl
def zIW (S:Cm q)(o:pos.length<=LB): ∃ R,Ev (λn=>JK n q pos most fuel) R/\ Ev (λn=>Mj n q pos most fuel) R:=by
 have a:=QA S o;have b:=Nq S o
 by_cases h0:CB q pos=0
 ·have c:=A4.of S h0
  by_cases d:(1<=most/\ most<=65536)/\ 0<=fuel/\ fuel<=16777216
  ·obtain ⟨f,rfl⟩: ∃ f:Nat,fuel=(f:Int):=⟨fuel.toNat,Z2⟩;obtain ⟨l,u,k⟩:=vq c;exact ⟨_,zIV c k d.1 Z2,zIZ c u d.1 Z2⟩
  ·rw [h0] at a b
   have key: ∀ (x:Option Δ),(bif decide (most<1) then some ((0:Int),(1:Int)) else bif decide (most>65536) then some (0,1) else bif decide (fuel<0) then some (0,1) else bif decide (fuel>16777216) then some (0,1) else x)=some (0,1):=λx=>by
    by_cases w:most<1
    ·rw [zAC w];rfl
    by_cases e:most>65536
    ·rw [zAC e];cases decide (most<1) <;> rfl
    by_cases E:fuel<0
    ·rw [zAC E];cases decide (most<1) <;> cases decide (most>65536) <;> rfl
    rw [zAC (p:=fuel>16777216) Z2];cases decide (most<1) <;> cases decide (most>65536) <;> cases decide (fuel<0) <;> rfl
   exact ⟨(0,1),Ev.bind a (Ev.now λn=>key _),Ev.bind b (Ev.now λn=>key _)⟩
 ·refine ⟨(0,CB q pos),Ev.bind a (Ev.now λn=>?_),Ev.bind b (Ev.now λn=>?_)⟩
  ·show (bif (CB q pos != 0) then _ else _)=_
   rw [UU h0];rfl
  ·show (bif (CB q pos != 0) then _ else _)=_
   rw [UU h0];rfl
def zIx (q:AA)(pos:Ξ)(most fuel:Int)(S:Cm q)(c:NQ q)(o:pos.length<=LB):Ev (λn=>kZ n q pos most fuel) true:=by
 obtain ⟨b,K,_⟩:=zB S c;refine Ev.bind sC (Ev.bind K ?_);cases b with
 | false=>exact Ev.now λn=>rfl
 | true=>
  obtain ⟨A,x,P⟩:=zOO (pos:=pos) S o;obtain ⟨B,K,e⟩:=zIW (most:=most) (fuel:=fuel) (pos:=pos) S o
  have key:Ev (λn=>(NE n q pos).bind λy3=>(PB n q pos).bind λm=>(JK n q pos most fuel).bind λR=>(Mj n q pos most fuel).bind λd=>bif (y3.1==m.1) then bif (y3.2.1==m.2.1) then bif (y3.2.2==m.2.2) then bif (R.1==d.1) then some (R.2==d.2) else some false else some false else some false else some false) true:=
   Ev.bind x (Ev.bind P (Ev.bind K (Ev.bind e (Ev.now λn=>Z3))))
  refine Ev.eq (g:=λn=>bif decide (fuel>1000) then bif decide (fuel<=16777216) then some true else (NE n q pos).bind λy3=>(PB n q pos).bind λm=>(JK n q pos most fuel).bind λR=>(Mj n q pos most fuel).bind λd=>bif (y3.1==m.1) then bif (y3.2.1==m.2.1) then bif (y3.2.2==m.2.2) then bif (R.1==d.1) then some (R.2==d.2) else some false else some false else some false else some false
   else (NE n q pos).bind λy3=>(PB n q pos).bind λm=>(JK n q pos most fuel).bind λR=>(Mj n q pos most fuel).bind λd=>bif (y3.1==m.1) then bif (y3.2.1==m.2.1) then bif (y3.2.2==m.2.2) then bif (R.1==d.1) then some (R.2==d.2) else some false else some false else some false else some false) ?_ λn=>rfl
  by_cases h:fuel>1000
  ·rw [zAC h]
   by_cases a:fuel<=16777216
   ·rw [zAC a];exact Ev.now λn=>rfl
   ·rw [zAF a];exact key
  ·rw [zAF h];exact key
end
end Go.Proofs.YtodinaconebmdaaGreatDoor
