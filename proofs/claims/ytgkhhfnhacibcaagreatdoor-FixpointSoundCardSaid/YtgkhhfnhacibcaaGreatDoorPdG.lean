/- Part 7 of 7 of what the proofs of these laws stand on. -/
import Derived.Test.YtgkhhfnhacibcaaGreatDoorPdF
import Derived.Test.YtgkhhfnhacibcaaGreatDoorRows
import Derived.ProofKit
import Derived.OpenShut
import Derived.Deep.DeepHandedRow
import Derived.Lib.LaidTab
import Derived.Deep.Slices
import Derived.Stop.LaidErr
import Derived.Test.YtgkhhfnhacibcaaGreatDoorCards
import Derived.Test.YtgkhhfnhacibcaaGreatDoorTie
set_option linter.all false
namespace Go.Proofs.YtgkhhfnhacibcaaGreatDoor
open Go.ChangeShapes Go.WideShapes Go.ChangeAt Go.RowKit
def Kh (w:World) (cs:List Value) (l:List DV):Prop:=cs.length=l.length/\ ∀ j,j<l.length -> AK (fun _=>False) w (l.getD j .any) [] (cs.getD j undef)
def Rd (P:Program) (t:TypeId) (m:Nat) {α:Type} (c:α -> List DV):Prop:=(∀ x,(c x).length=m)/\ P.cellsOf t=m/\ ∀ {H:Type} (enc:TypeId×Value -> H) (w:World) (EJ:Nat) (cs:List Value) (x:DataW H×List MemPlace),DataW.trod enc P w 0 (fun _=>true) true EJ t cs=some x -> (∀ n∈x.1.weights P t,n<=reachBytes) -> ∃ y:α,Kh w cs (c y)
theorem ca {H:Type} {P:Program} {e:TypeId}: ∀ {l:List (DataW H)} {d:DataW H} {n:Nat},d∈l -> n∈d.weights P e -> n∈DataW.weightsAll P e l
 | [],_,_,h,_=>by cases h
 | a::l,d,n,h,hn=>by
  unfold DataW.weightsAll;rcases zDF.1 h with rfl | h
  ·exact zDL _ hn
  ·exact zDX _ (ca h hn)
section
variable {P:Program} {t e:TypeId} {m:Nat}
theorem Kh.one {w:World} {v:Value} {d:DV} (h:AK (fun _=>False) w d [] v):Kh w [v] [d]:=⟨rfl,fun j hj=>by
 have:j=0:=by simpa using hj
 subst this;exact h⟩
theorem Kh.app {w:World} {cs EM:List Value} {l l':List DV} (h:Kh w cs l) (h':Kh w EM l'):Kh w (cs++EM) (l++l'):=by
 refine ⟨by simp [h.1,h'.1],fun j hj=>?_⟩;rcases zD3 j l.length with hl | hl
 ·have:=h.2 j hl;have hc:j<cs.length:=by rw [h.1];exact hl
  simp only [u8] at this ⊢;rw [zC8 hl,zC8 hc];exact this
 ·have:=h'.2 (j-l.length) (by simp at hj;omega);simp only [u8] at this ⊢;rw [zDJ hl,zDJ (by rw [h.1];exact hl),h.1];exact this
theorem Rd.int {k:IntKind} (ht:P.underlying t=some (.int k)) (hc:P.cellsOf t=1):Rd P t 1 (fun n:Int=>[.int k n]):=⟨fun _=>rfl,hc,fun enc w EJ cs x h hw=>by
 obtain ⟨n,rfl,_⟩:=DataW.trod_int ht h;exact ⟨n,.one rfl⟩⟩
theorem lT {w:World} {a:Addr} {n:Nat} {cs:List Value} (h:w.cells? 0 a n=some cs):cs.length=n/\ ∀ j,j<n -> w.cell? (a.add j)=some (cs.getD j undef):=by
 unfold World.cells? at h;rw [zB3 (zD0 _)] at h;have hl:cs.length=n:=by simpa using Lib.mapM_length h
 refine ⟨hl,fun j hj=>?_⟩;obtain ⟨b,h1,h2⟩:=Lib.mapM_at h j j (by simp [hj]);rw [h2,u8,h1];rfl
theorem zCY {w:World} {a:Addr} {v:Value} (h:w.cell? a=some v): ∃ b o,a=⟨b,o,none⟩:=by
 obtain ⟨b,o,r⟩:=a;cases r with
 | none=>exact ⟨b,o,rfl⟩
 | some r=>
  unfold World.cell? at h;split at h
  ·simp at h
  ·cases h
theorem mf (b o x:Nat):(⟨b,o,none⟩:Addr).add x=⟨b,o+x,none⟩:=by
 unfold Addr.add;split
 ·rename_i e;subst e;rfl
 ·rfl
theorem Rd.row {α:Type} [Inhabited α] {c:α -> List DV} (ht:P.underlying t=some (.slice e)) (hb:0<P.bytesOf e) (hm:0<m) (he:Rd P e m c) {H:Type} (enc:TypeId×Value -> H) (w:World) (EJ:Nat) (cs:List Value) (x:DataW H×List MemPlace) (h:DataW.trod enc P w 0 (fun _=>true) true EJ t cs=some x) (hw: ∀ n∈x.1.weights P t,n<=reachBytes):
 ∃ (L:List α) (a:Option Addr) (cap:Nat),cs= [.slice a L.length cap]/\ L.length<=cap/\ L.length<=LB/\ ∀ i j,i<L.length -> j<m -> ∃ b o u,a=some ⟨b,o,none⟩/\ w.cell? ⟨b,o+(i*m+j),none⟩=some u/\ AK (fun _=>False) w ((c (L.getD i default)).getD j .any) [] u:=by
 rcases Deep.open_slice ht h with ⟨rfl,_⟩ | ⟨a,len,cap,m',n,D,Pl,rfl,_,yW,La,CE,hx,R8⟩
 ·exact ⟨[],none,0,rfl,zC6 _,zD0 _,fun i j hi=>absurd hi (zCz i)⟩
 ·simp only [zDj] at CE;subst CE;subst hx
  have plain:0<len -> ∃ b o,a=⟨b,o,none⟩:=fun h0=>by
   obtain ⟨EM,h1,_⟩:=R8 0 (by omega);obtain ⟨g1,g2⟩:=lT h1;have g3:=g2 0 (by rw [he.2.1];exact hm);have e0:(a.add (0*P.cellsOf e)).add 0=a:=by simp [Addr.add]
   rw [e0] at g3;exact zCY g3
  have pick: ∀ i,i<len -> ∃ y:α,∀ j,j<m -> ∃ b o u,a=⟨b,o,none⟩/\ w.cell? ⟨b,o+(i*m+j),none⟩=some u/\ AK (fun _=>False) w ((c y).getD j .any) [] u:=fun i hi=>by
   obtain ⟨EM,h1,h2⟩:=R8 i (by omega)
   obtain ⟨y,h3,h4⟩:=he.2.2 enc w n EM _ h2 fun k hk=>hw k (by
    simp only [DataW.weights,ht];refine zDK _ (zDL _ (ca (d:=D i) ?_ hk));exact zDr.2 ⟨i,zCy.2 hi,rfl⟩)
   obtain ⟨g1,g2⟩:=lT h1;obtain ⟨b,o,rfl⟩:=plain (by omega);refine ⟨y,fun j hj=>?_⟩;have g3:=g2 j (by rw [he.2.1];exact hj);refine ⟨b,o,_,rfl,?_,h4 j (by rw [he.1];exact hj)⟩;rw [←g3,he.2.1,mf,mf,zDb]
  have hL: ∃ L:List α,L.length=len/\ ∀ i,i<len -> ∀ j,j<m -> ∃ b o u,a=⟨b,o,none⟩/\ w.cell? ⟨b,o+(i*m+j),none⟩=some u/\ AK (fun _=>False) w ((c (L.getD i default)).getD j .any) [] u:=by
   refine ⟨(List.range len).map fun i=>if hi:i<len then (pick i hi).choose else default,by simp,fun i hi=>?_⟩
   have:((List.range len).map fun i=>if hi:i<len then (pick i hi).choose else default).getD i default=(pick i hi).choose:=by
    simp [u8,hi]
   rw [this];exact (pick i hi).choose_spec
  obtain ⟨L,rfl,hL⟩:=hL;refine ⟨L,some a,_,rfl,yW,?_,fun i j hi hj=>?_⟩
  ·have hk:=hw ((L.length+(m'-L.length))*P.bytesOf e) (by
    simp only [DataW.weights,ht,zDe,zEM];exact zDh)
   have h1:=Nat.le_mul_of_pos_right (L.length+(m'-L.length)) hb;have h2:=zCv h1 hk;unfold reachBytes at h2;unfold LB;omega
  ·obtain ⟨b,o,u,g1,g2,g3⟩:=hL i hi j hj;exact ⟨b,o,u,by rw [g1],g2,g3⟩
theorem Rd.rows {α:Type} [Inhabited α] {c:α -> List DV} (ht:P.underlying t=some (.slice e)) (hc:P.cellsOf t=1) (hb:0<P.bytesOf e) (hm:0<m) (he:Rd P e m c):Rd P t 1 (fun L:List α=>[.sl m L.length (As c L)]):=⟨fun _=>rfl,hc,fun enc w EJ cs x h hw=>by
 obtain ⟨L,a,cap,rfl,h1,h2,h3⟩:=Rd.row ht hb hm he enc w EJ cs x h hw;refine ⟨L,Kh.one ⟨a,cap,rfl,h1,h2,fun i j hi hj=>?_⟩⟩;obtain ⟨b,o,u,g1,g2,g3⟩:=h3 i j hi hj;exact ⟨b,o,u,g1,fun h=>h,g2,g3⟩⟩
theorem Rd.ints (ht:P.underlying t=some (.slice e)) (hc:P.cellsOf t=1) (hb:0<P.bytesOf e) (he:P.underlying e=some (.int .i64)) (zC:P.cellsOf e=1):Rd P t 1 A4:=⟨fun _=>rfl,hc,fun enc w EJ cs x h hw=>by
 obtain ⟨L,a,cap,rfl,h1,h2,h3⟩:=Rd.row ht hb (zEY) (Rd.int he zC) enc w EJ cs x h hw;refine ⟨L,.one ⟨a,cap,rfl,h1,h2,fun j hj=>?_⟩⟩;obtain ⟨b,o,u,g1,g2,g3⟩:=h3 j 0 hj zEY;refine ⟨b,o,g1,fun h=>h,?_⟩;have:u= .int .i64 (L.getD j 0):=g3;rw [←this,←g2];simp⟩
def EN (P:Program):List Field -> Nat -> Nat -> {α:Type} -> (α -> List DV) -> Prop:=fun fs o n {α} c=>∀ (H:Type) (enc:TypeId×Value -> H) (w:World) (EJ:Nat) (cs:List Value) (xs:List (DataW H×List MemPlace)),cs.length=n -> (fs.mapM fun f=>DataW.trod enc P w 0 (fun _=>true) true EJ f.type ((cs.drop f.offset).take (P.cellsOf f.type)))=some xs -> (∀ k∈DataW.weightsEach P (fs.map (·.type)) (xs.map (·.1)),k<=reachBytes) -> ∃ y:α,Kh w (cs.drop o) (c y)
theorem EN.nil {o n:Nat} (ho:n=o):EN P [] o n (fun _:Unit=>[]):=fun _ enc w EJ cs xs hl _ _=>⟨(),by rw [List.drop_of_length_le (by omega)];exact ⟨rfl,fun j hj=>absurd hj (zCz j)⟩⟩
theorem EN.cons {α β:Type} {c:α -> List DV} {c':β -> List DV} {f:Field} {fs:List Field} {o n:Nat} (ho:f.offset=o) (hf:Rd P f.type m c) (hs:EN P fs (o+m) n c'):EN P (f::fs) o n (fun x:α×β=>c x.1++c' x.2):=fun _ enc w EJ cs xs hl h hw=>by
 rw [List.mapM_cons] at h;obtain ⟨a,ha,h⟩:=Option.bind_eq_some_iff.1 h;obtain ⟨ys,wC,e⟩:=Option.bind_eq_some_iff.1 h;cases e;obtain ⟨y,h1⟩:=hf.2.2 enc w EJ _ a ha fun k hk=>hw k (by simp only [zD8,DataW.weightsEach];exact zDL _ hk)
 obtain ⟨z,h2⟩:=hs _ enc w EJ cs ys hl wC fun k hk=>hw k (by simp only [zD8,DataW.weightsEach];exact zDX _ hk)
 refine ⟨(y,z),?_⟩
 have:cs.drop o=(cs.drop f.offset).take (P.cellsOf f.type)++cs.drop (o+m):=by
  rw [ho,hf.2.1,←List.drop_drop];exact (List.take_append_drop m (cs.drop o)).symm
 rw [this];exact h1.app h2
theorem Rd.struct {α β:Type} {c:α -> List DV} {c':β -> List DV} {fs:Array Field} (ht:P.underlying t=some (.struct fs)) (hc:P.cellsOf t=m) (hs:EN P fs.toList 0 m c) (g:α -> β) (hg: ∀ x,c x=c' (g x)) (hm: ∀ x,(c' x).length=m):Rd P t m c':=⟨hm,hc,fun enc w EJ cs x h hw=>by
 cases EJ with
 | zero=>simp [DataW.trod] at h
 | succ EJ=>
  unfold DataW.trod at h;rw [ht] at h;simp only at h;split at h
  ·rename_i hl;obtain ⟨xs,ZZ,e⟩:=Option.map_eq_some_iff.1 h;subst e;obtain ⟨y,hy⟩:=hs _ enc w EJ cs xs (by rw [hl,hc]) ZZ fun k hk=>hw k (by simp only [DataW.weights,ht];exact hk)
   exact ⟨g y,by rw [←hg];exact hy⟩
  ·cases h⟩
end
end Go.Proofs.YtgkhhfnhacibcaaGreatDoor
namespace Go.Proofs.YtgkhhfnhacibcaaGreatDoor
open Go.ChangeShapes Go.WideShapes Go.ChangeAt Go.RowKit
def HM (P:Program) (t:TypeId) {α:Type} (d:α -> DV):Prop:=∀ {H:Type} (enc:TypeId×Value -> H) (w:World) (Df:Nat) (v:Value) (x:DataW H) (ps:List MemPlace),Value.okWide P w .any Df t v -> DataW.Trod enc P w 0 (fun _=>true) true t v x ps -> (∀ n∈x.weights P t,n<=reachBytes) -> ∃ y:α,AK (fun _=>False) w (d y) [] v
section
variable {P:Program} {t e:TypeId}
theorem HM.int {k:IntKind} (ht:P.underlying t=some (.int k)):HM P t (fun n:Int=>.int k n):=fun enc w Df v x ps CL _ _=>by
 obtain ⟨n,rfl⟩:=okWide_int ht CL;exact ⟨n,rfl⟩
theorem HM.one {α:Type} {c:α -> List DV} (ht:P.underlying t=some (.slice e)) (h:Rd P t 1 c):HM P t (fun x=>(c x).getD 0 .any):=fun enc w Df v x ps CL ⟨EJ,hx⟩ hw=>by
 obtain ⟨a,len,cap,rfl⟩:=okWide_slice ht CL;obtain ⟨y,h1,h2⟩:=h.2.2 enc w EJ _ _ hx hw;exact ⟨y,by simpa [Value.cells] using h2 0 (by rw [h.1];exact zEY)⟩
theorem HM.agg {α:Type} {m:Nat} {c:α -> List DV} {fs:Array Field} (ht:P.underlying t=some (.struct fs)) (h:Rd P t m c):HM P t (fun x=>.agg m (L1 (c x))):=fun enc w Df v x ps CL ⟨EJ,hx⟩ hw=>by
 obtain ⟨cs,rfl,DR⟩:=okWide_struct ht CL;obtain ⟨y,h1,h2⟩:=h.2.2 enc w EJ _ _ hx hw;have hm:(c y).length=m:=h.1 y
 have Az:cs.size=m:=by
  have:cs.toList.length=(c y).length:=h1;simpa [hm] using this
 refine ⟨y,cs,rfl,Az,fun j hj=>?_⟩;have:=h2 j (by rw [hm];exact hj);refine ⟨cs[j]'(by omega),by simp [Az,hj],?_⟩
 have e:(Value.agg cs).cells.toList.getD j undef=cs[j]'(by omega):=by
  show cs.toList.getD j undef=_
  simp [u8,Az,hj]
 rw [e] at this;exact this
def Iw (P:Program) (ts:List TypeId) {α:Type} (ds:α -> List DV):Prop:=∀ {H:Type} (enc:TypeId×Value -> H) (w:World) (Df:Nat) (vs:List Value) (xs:List (DataW H)) (ps:List MemPlace),(∀ (j:Nat) t v,ts[j]? =some t -> vs[j]? =some v -> Value.okWide P w .any Df t v) -> DataW.TrodAll enc P w 0 (fun _=>true) true ts vs xs ps -> (∀ n∈DataW.weightsEach P ts xs,n<=reachBytes) -> ∃ y:α,(ds y).length=vs.length/\ ∀ j,j<vs.length -> AK (fun _=>False) w ((ds y).getD j .any) [] (vs.getD j undef)
theorem Iw.nil:Iw P [] (fun _:Unit=>[]):=fun enc w Df vs xs ps _ h _=>by
 obtain ⟨rfl,_,_⟩:=trodAll_nil h;exact ⟨(),rfl,fun j hj=>absurd hj (zCz j)⟩
theorem Iw.cons {α β:Type} {d:α -> DV} {ds:β -> List DV} {ts:List TypeId} (h:HM P t d) (hs:Iw P ts ds):Iw P (t::ts) (fun x:α×β=>d x.1::ds x.2):=fun enc w Df vs xs ps CL h0 hw=>by
 obtain ⟨v,BY,x,cQ,p,q,rfl,rfl,rfl,h1,h2⟩:=trodAll_cons h0;obtain ⟨y,hy⟩:=h enc w Df v x p (CL 0 t v rfl rfl) h1 fun n hn=>hw n (by simp only [DataW.weightsEach];exact zDL _ hn)
 obtain ⟨z,Rk,wA⟩:=hs enc w Df BY cQ q (fun j t' v' a b=>CL (j+1) t' v' (by simpa using a) (by simpa using b)) h2 fun n hn=>hw n (by simp only [DataW.weightsEach];exact zDX _ hn)
 refine ⟨(y,z),by simp [Rk],fun j hj=>?_⟩;cases j with
 | zero=>exact hy
 | succ j=>exact wA j (by simpa using hj)
theorem ct {H:Type} {enc:TypeId×Value -> H} (hl:laidOutB P=true) {W W':World} (hE:Ar W W'): ∀ {ts:List TypeId} {vs:List Value} {ds:List (DataW H)} {ps:List MemPlace},(∀ t∈ts,P.readableRec t=true/\ t<P.types.size) -> DataW.TrodAll enc P W 0 (fun _=>true) true ts vs ds ps -> (∀ x∈ps,x.block<W.heap.size) -> DataW.TrodAll enc P W' 0 (fun b=>decide (b<W.heap.size)) true ts vs ds ps
 | [],_,_,_,_,h,_=>by
  obtain ⟨rfl,rfl,rfl⟩:=trodAll_nil h;rfl
 | t::ts,_,_,_,hr,h,AL=>by
  obtain ⟨v,BY,x,cQ,p,q,rfl,rfl,rfl,h1,h2⟩:=trodAll_cons h;exact ⟨p,q,Below.trod hl (hr t (by simp)).1 (hr t (by simp)).2 h1 hE fun x hx=>AL x (zDL _ hx),ct hl hE (fun t ht=>hr t (by simp [ht])) h2 fun x hx=>AL x (zDX _ hx),rfl⟩
theorem sq {H:Type} {enc:TypeId×Value -> H} {f:Func} {s:ChangeSpec} {W W':World} {args:Array Value} {ds gs:List (DataW H)} {Nb:List MemPlace} {tb:TypeId} (hl:laidOutB P=true) (hr: ∀ t∈f.params.toList,P.readableRec t=true/\ t<P.types.size) (hE:Ar W W')
 (hW:DataW.Whole enc P f.params.toList s.vars false W args.toList ds gs Nb) (hv:s.vars= []) (hs:s.fn H (ds++gs)= { results:=[.lit (.bool true)],args:=ds }) (Zh:f.resultTypes= #[tb]) (Zd:P.underlying tb=some .bool):
 s.post enc P f false true false false W args (.bool true) W':=by
 have SC:=hW;have AL:=hW.lt;obtain ⟨p,q,hA,hV,rfl,Gc,A5⟩:=hW;rw [hv] at hV;obtain ⟨rfl,rfl⟩:=trodVars_none hV;have Ce:=ct hl hE hr hA fun x hx=>AL x (zDL _ hx)
 refine ⟨ds,[],p++[],[],p,[],SC,?_,?_,?_,World.keptBut_mono (fun x hx=>⟨hx,.inr (.inl (by simpa using hx))⟩) (Below.frame hE (· ∈p++[])),fun h=>by cases h⟩
 ·rw [hs,Zh];exact trodAll_mk1 (shut_bool Zd true)
 ·rw [hs];exact Ce
 ·rw [hv,hs];rfl
theorem ug {H:Type} {enc:TypeId×Value -> H} {Γ:A1} {kT:Nat} {f:Func} {s:ChangeSpec} {W:World} {Df:Nat} {args:Array Value} {ds gs:List (DataW H)} {Nb:List MemPlace} {tb:TypeId} {α:Type} {dv:α -> List DV} (hl:laidOutB P=true) (hr: ∀ t∈f.params.toList,P.readableRec t=true/\ t<P.types.size)
 (wv:Iw P f.params.toList dv) (DS: ∀ (w:World) (y:α),(∀ j,AK (fun _=>False) w ((dv y).getD j .any) [] (args.getD j undef)) -> ES P Γ kT (dv y) [] (.bool true) [] true)
 (Fv: ∀ (j:Nat) t v,f.params[j]? =some t -> args[j]? =some v -> Value.okWide P W .any Df t v) (hW:DataW.Whole enc P f.params.toList s.vars false W args.toList ds gs Nb) (hv:s.vars= []) (hs:s.fn H (ds++gs)= { results:=[.lit (.bool true)],args:=ds }) (Zh:f.resultTypes= #[tb]) (Zd:P.underlying tb=some .bool)
 (Az:(DataW.weightsEach P f.params.toList ds).all (· <=reachBytes)=true) (hg:Γ.gi W):Calls P kT args W fun e W'=>∃ v,e= .returned v/\ s.post enc P f false true false false W args v W':=by
 have SC:=hW;obtain ⟨p,q,hA,hV,rfl,Gc,A5⟩:=hW
 obtain ⟨y,h1,h2⟩:=wv enc W Df args.toList ds p (fun j t v a b=>Fv j t v (by simpa using a) (by simpa using b)) hA fun n hn=>by
  have:=zCs.1 Az n hn;simpa using this
 have Ah:(dv y).length=args.size:=by simpa using h1
 have i6: ∀ j,AK (fun _=>False) W ((dv y).getD j .any) [] (args.getD j undef):=fun j=>by
  rcases zD3 j args.size with hj | hj
  ·have:=h2 j (by simpa using hj);simpa [u8,zDA,hj] using this
  ·have:(dv y).getD j .any= .any:=by rw [u8,zDO (by omega)];rfl
   rw [this];trivial
 refine ((DS W y i6).2 (fun _=>False) [] W args (Ot (fun b hb=>hb.elim) hg) ⟨Ah,fun i hi=>?_⟩).mono ?_
 ·exact AK.out _ (Db (fun b hb=>No.1 hb) []) (i6 i)
 ·rintro e W' ⟨v,rfl,G⟩;obtain ⟨ρ',_,Zb,_⟩:=G.ex;have Zb:v= .bool true:=Zb;subst Zb;exact ⟨_,rfl,sq hl hr (G.ext rfl) SC hv hs Zh Zd⟩
end
end Go.Proofs.YtgkhhfnhacibcaaGreatDoor
namespace Go.Proofs.YtgkhhfnhacibcaaGreatDoor
open Go.ChangeShapes Go.WideShapes Go.ChangeAt Go.RowKit
theorem own:ownKnob Tryz.prog.godebug=none:=by kernel_rfl
theorem uq:laidOutB Tryz.prog=true:=by kernel_rfl
theorem zBo:0<Tryz.prog.bytesOf 3:=zDw (by kernel_rfl)
theorem Jw:Rd Tryz.prog 3 1 (fun n:Int=>[.int .i64 n]):=Rd.int Tryz.underlying3 (by kernel_rfl)
theorem Qm:Rd Tryz.prog 22 1 A4:=Rd.ints Tryz.underlying22 (by kernel_rfl) zBo Tryz.underlying3 (by kernel_rfl)
theorem sK:Rd Tryz.prog 23 1 (fun L:List (List Int)=>[.sl 1 L.length (As A4 L)]):=Rd.rows Tryz.underlying23 (by kernel_rfl) (zDw (by kernel_rfl)) zEY Qm
set_option maxRecDepth 100000 in
theorem sN:Rd Tryz.prog 36 9 AH:=by
 refine Rd.struct Tryz.underlying36 (by kernel_rfl)
  (EN.cons rfl Jw<|EN.cons rfl Qm<|EN.cons rfl Jw<|EN.cons rfl Jw<|EN.cons rfl Jw<|EN.cons rfl Jw<|EN.cons rfl Qm<|EN.cons rfl Jw<|EN.cons rfl Jw<|EN.nil rfl)
  (fun x:Int×List Int×Int×Int×Int×Int×List Int×Int×Int×Unit=>(⟨x.1,x.2.1,x.2.2.1,x.2.2.2.1,x.2.2.2.2.1,x.2.2.2.2.2.1,x.2.2.2.2.2.2.1,x.2.2.2.2.2.2.2.1,x.2.2.2.2.2.2.2.2.1⟩:AB)) ?_ (fun _=>rfl)
 intro x;rfl
theorem sM:Rd Tryz.prog 24 1 (fun L:List AB=>[.sl 9 L.length (As AH L)]):=Rd.rows Tryz.underlying24 (by kernel_rfl) (zDw (by kernel_rfl)) (by decide) sN
set_option maxRecDepth 100000 in
theorem sL:Rd Tryz.prog 26 5 AD:=by
 refine Rd.struct Tryz.underlying26 (by kernel_rfl)
  (EN.cons rfl Jw<|EN.cons rfl Jw<|EN.cons rfl Qm<|EN.cons rfl sK<|EN.cons rfl sM<|EN.nil rfl)
  (fun x:Int×Int×List Int×List (List Int)×List AB×Unit=>(⟨x.1,x.2.1,x.2.2.1,x.2.2.2.1,x.2.2.2.2.1⟩:AA)) ?_ (fun _=>rfl)
 intro x;rfl
theorem qX:HM Tryz.prog 26 (fun q:AA=>.agg 5 (L1 (AD q))):=HM.agg Tryz.underlying26 sL
theorem qY:HM Tryz.prog 3 (fun n:Int=>.int .i64 n):=HM.int Tryz.underlying3
theorem eW:HM Tryz.prog 22 (fun l:List Int=>.ints l):=HM.one Tryz.underlying22 Qm
theorem CW.of {M:Nat -> Prop} {w:World} {ρ:List AJ} {q:AA} {v:Value} (h:AK M w (.agg 5 (L1 (AD q))) ρ v):CW q:=by
 obtain ⟨cs,_,_,hc⟩:=h
 have row: ∀ {α:Type} [Inhabited α] {m:Nat} {c:α -> List DV} {L:List α} {u:Value},0<m -> AK M w (.sl m L.length (As c L)) ρ u -> ∀ x∈L,∀ j,j<m -> ∃ u,AK M w ((c x).getD j .any) [] u:=by
  intro α _ m c L u hm ⟨a,cap,_,_,_,hh⟩ x hx j hj;obtain ⟨i,hi,rfl⟩:=zDq hx;obtain ⟨b,o,u,_,_,_,hr⟩:=hh i j hi hj;refine ⟨u,?_⟩;have e:L.getD i default=L[i]:=by simp [hi]
  have hr:AK M w ((c (L.getD i default)).getD j .any) [] u:=hr;rw [e] at hr;exact hr
 refine ⟨?_,fun r hr=>?_,fun c aN=>?_,fun c aN=>?_⟩
 ·obtain ⟨u,_,h2⟩:=hc 2 (by decide);exact Og h2
 ·obtain ⟨u,_,h3⟩:=hc 3 (by decide);obtain ⟨u,h⟩:=row (c:=A4) (L:=q.nbrs) zEY h3 r hr 0 zEY;exact Og h
 ·obtain ⟨u,_,h4⟩:=hc 4 (by decide);obtain ⟨u,h⟩:=row (c:=AH) (L:=q.cons) (by decide) h4 c aN 1 (by decide);exact Og h
 ·obtain ⟨u,_,h4⟩:=hc 4 (by decide);obtain ⟨u,h⟩:=row (c:=AH) (L:=q.cons) (by decide) h4 c aN 6 (by decide);exact Og h
theorem kK:Tryz.prog.globalNamed "math/bits.deBruijn64tab" =some 1:=by kernel_rfl
theorem zr:(Tryz.prog.globals[1]?).map (·.type)=some 154:=by kernel_rfl
abbrev Y0 {H:Type}:List (String×DataW H):=[("math/bits.deBruijn32tab",Rows.laid_math_bits_deBruijn32tab),("math/bits.deBruijn64tab",Rows.laid_math_bits_deBruijn64tab)]
theorem nu {W:World} (h:laidMetH Tryz.prog Y0 W):Lib.TabIs Tryz.prog W "math/bits.deBruijn64tab" .u8 (Lib.deBruijn64tab.map Int.ofNat):=
 Lib.tabIs_of_head (rest:=[]) kK zr Tryz.underlying154 Tryz.underlying5 (by kernel_rfl) (by kernel_rfl) (laidMet.tail (show laidMet Tryz.prog Y0 W from h))
theorem nt {W:World} (h:laidMetH Tryz.prog Y0 W):GG.gi W:=by
 have T:=nu h;have c: ∀ j,j<64 -> W.cell? ⟨1,j,none⟩=some (.int .u8 ((Lib.deBruijn64tab.map Int.ofNat).getD j 0)):=fun j hj=>T.cell kK j (by rw [zDe];exact hj)
 refine ⟨fun j hj=>?_,?_⟩
 ·have hj:j<64:=hj;rw [c j hj]
  have:(Lib.deBruijn64tab.map Int.ofNat).getD j 0=((Lib.deBruijn64tab.getD j 0:Nat):Int):=by
   have hl:j<Lib.deBruijn64tab.length:=hj;simp [u8,hl]
  rw [this]
 ·have:=zD4 W _ (c 0 (by decide));exact this
def iN (l:List Nat) (o:Obj):Obj:=match o with
 | .cells _ t frozen=>.cells (l.map fun n=>Value.int .u8 (Int.ofNat n)).toArray t frozen
 | o=>o
noncomputable def Yz (os:Os):World:=
 { World.holding Tryz.prog os ⟨#[],#[],[]⟩ with heap:=((World.holding Tryz.prog os ⟨#[],#[],[]⟩).heap.modify 0 (iN Lib.deBruijn32tab)).modify 1 (iN Lib.deBruijn64tab) }
def UV:Value:=.agg #[.int .i64 0,.int .i64 0,.slice none 0 0,.slice none 0 0,.slice none 0 0]
end Go.Proofs.YtgkhhfnhacibcaaGreatDoor
