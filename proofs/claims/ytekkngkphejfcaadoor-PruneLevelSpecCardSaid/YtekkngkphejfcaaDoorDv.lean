/- A plainer view of the program's state: values without addresses, objects under numbers, and what it means that they stand for a frame and a world. -/
import Derived.Test.YtekkngkphejfcaaDoorRng
import Derived.Laws.IdiomRangeMap
namespace Go.Proofs.YtekkngkphejfcaaDoor
open Go.RowKit

inductive DV where
  | any
  | nils
  | int (k : IntKind) (n : Int)
  | bool (b : Bool)
  | str (s : ByteArray)
  | ints (l : List Int)
  | bools (l : List Bool)
  | sl (m n : Nat) (f : Nat → Nat → DV)
  | fp (m : Nat) (f : Nat → DV)
  | agg (m : Nat) (f : Nat → DV)
  | tup (m : Nat) (f : Nat → DV)
  | ref (k j : Nat)
  | msl (k m off n : Nat)
  | mp (k m i j : Nat)
  | fn (g : Nat) (m : Nat) (c : Nat → DV)
  | it (k : Nat)
  | yl (l : Nat)
  | mse (k m off n : Nat)
  | mri (k i : Nat)
  | cst (u : Value)
instance : Inhabited DV := ⟨.any⟩

/-- Where an object lies. -/
structure Place where
  blk : Nat
  off : Nat
  room : Nat
  val : Value
  foot : Nat → Prop

/-- A function's first values, as a row. -/
def tab (m : Nat) (f : Nat → DV) : Nat → DV := fun j => ((List.range m).map f).getD j .any
theorem tab_lt {m : Nat} {f : Nat → DV} {j : Nat} (h : j < m) : tab m f j = f j := by simp [tab, h]
def LB : Nat := 140737488355328

/-- A value of the view stands for a value; M: the blocks that may still be written. -/
def RepV (M : Nat → Prop) (w : World) : DV → List Place → Value → Prop
  | .any, _, _ => True
  | .nils, _, v => v = .slice none 0 0
  | .int k n, _, v => v = .int k n
  | .bool b, _, v => v = .bool b
  | .str s, _, v => v = .string s
  | .ints l, _, v => ∃ (a : Option Addr) (cap : Nat), v = .slice a l.length cap ∧ l.length ≤ cap ∧ l.length ≤ LB ∧
      ∀ j, j < l.length → ∃ b o, a = some ⟨b, o, none⟩ ∧ ¬ M b ∧ w.cell? ⟨b, o + j, none⟩ = some (.int .i64 (l.getD j 0))
  | .bools l, _, v => ∃ (a : Option Addr) (cap : Nat), v = .slice a l.length cap ∧ l.length ≤ cap ∧ l.length ≤ LB ∧
      ∀ j, j < l.length → ∃ b o, a = some ⟨b, o, none⟩ ∧ ¬ M b ∧ w.cell? ⟨b, o + j, none⟩ = some (.bool (l.getD j false))
  | .sl m n f, _, v => ∃ (a : Option Addr) (cap : Nat), v = .slice a n cap ∧ n ≤ cap ∧ n ≤ LB ∧
      ∀ i j, i < n → j < m → ∃ b o u, a = some ⟨b, o, none⟩ ∧ ¬ M b ∧ w.cell? ⟨b, o + (i * m + j), none⟩ = some u ∧ RepV M w (f i j) [] u
  | .fp m f, _, v => ∃ b o, v = .pointer (some ⟨b, o, none⟩) ∧ ∀ j, j < m → ¬ M b ∧ ∃ u, w.cell? ⟨b, o + j, none⟩ = some u ∧ RepV M w (f j) [] u
  | .agg m f, ρ, v => ∃ cs, v = .agg cs ∧ cs.size = m ∧ ∀ j, j < m → ∃ u, cs[j]? = some u ∧ RepV M w (f j) ρ u
  | .tup m f, ρ, v => ∃ cs, v = .tuple cs ∧ cs.size = m ∧ ∀ j, j < m → ∃ u, cs[j]? = some u ∧ RepV M w (f j) ρ u
  | .ref k j, ρ, v => ∃ p : Place, ρ[k]? = some p ∧ v = .pointer (some ⟨p.blk, p.off + j, none⟩)
  | .msl k m off n, ρ, v => ∃ (p : Place) (cap : Nat), ρ[k]? = some p ∧ v = .slice (some ⟨p.blk, p.off + off * m, none⟩) n cap ∧ n ≤ cap ∧ n ≤ LB ∧ p.off + off * m + cap * m ≤ p.room
  | .mp k m i j, ρ, v => ∃ p : Place, ρ[k]? = some p ∧ v = .pointer (some ⟨p.blk, p.off + (i * m + j), none⟩)
  | .fn g m c, ρ, v => ∃ lb, v = .func (.func g) #[] lb ∧ lb.size = m ∧ ∀ j, j < m → ∃ u, lb[j]? = some u ∧ RepV M w (c j) ρ u
  | .it k, ρ, v => ∃ p : Place, ρ[k]? = some p ∧ v = p.val
  | .yl l, _, v => v = .func (.yield l) #[] #[]
  | .cst u, _, v => v = u ∧ u.oneCell' = true
  | .mri k i, ρ, v => ∃ (p : Place) (vs : Array Value), ρ[k]? = some p ∧ p.val = .tuple vs ∧ vs[i]? = some v
  | .mse k m off n, ρ, v => ∃ (p : Place) (a : Option Addr) (cap : Nat), ρ[k]? = some p ∧ v = .slice a n cap ∧ n ≤ cap ∧ n ≤ LB ∧ (0 < cap → a = some ⟨p.blk, p.off + off * m, none⟩ ∧ p.off + off * m + cap * m ≤ p.room)

theorem tab_rep {M : Nat → Prop} {w : World} {ρ : List Place} {m : Nat} {f : Nat → DV} {j : Nat} {v : Value} (h : j < m) (hr : RepV M w (f j) ρ v) : RepV M w (tab m f j) ρ v := by rw [tab_lt h]; exact hr

/-! ### Maps: sets of keys -/
abbrev KS := List (List Int)
/-- A key. -/
def keyV : List Int → Value
  | [a] => .int .i64 a
  | l => .agg (l.map fun a => .int .i64 a).toArray
theorem keyV_inj : ∀ {a b : List Int}, keyV a = keyV b → a = b := by
  have ai : ∀ {l m : List Int}, (l.map fun a => Value.int .i64 a).toArray = (m.map fun a => Value.int .i64 a).toArray → l = m := fun {l m} h => by
    have h := Array.toList_inj.2 h
    simp only at h
    exact List.map_inj_right (fun x y e => by cases e; rfl) |>.1 h
  intro a b h
  match a, b with
  | [x], [y] => cases h; rfl
  | [], [] => rfl
  | [x], [] => cases h
  | [], [y] => cases h
  | [x], y :: y' :: m => cases h
  | x :: x' :: l, [y] => cases h
  | x :: x' :: l, [] => exact ai (Value.agg.inj h)
  | [], y :: y' :: m => exact ai (Value.agg.inj h)
  | x :: x' :: l, y :: y' :: m => exact ai (Value.agg.inj h)
/-- A block's map holds these keys, each with true. -/
structure MapAt (w : World) (b n : Nat) (l : KS) (es : Array MapEntry) (clock : Nat) : Prop where
  blk : w.heap[b]? = some (.map es clock)
  keys : (es.toList.map (·.key)).Perm (l.map keyV)
  nd : l.Nodup
  len : ∀ y ∈ l, y.length = n
  tru : ∀ e ∈ es.toList, e.val = .bool true
  born : ∀ e ∈ es.toList, e.born < clock
  stamps : (es.toList.map (·.born)).Nodup
theorem MapAt.out {w w' : World} {b n : Nat} {l : KS} {es : Array MapEntry} {clock : Nat} (h : MapAt w b n l es clock) (hb : w'.heap[b]? = w.heap[b]?) : MapAt w' b n l es clock := { h with blk := hb.trans h.blk }
inductive MX where
  | set (n : Nat) (l : KS)
  | sets (n : Nat) (ls : List (Option KS)) (lk : Option (Nat × Nat × Array MapEntry × Nat))
  | mit (n mb : Nat) (es : Array MapEntry) (clock : Nat) (rem : KS) (cur : Option (List Int))
/-- A row of maps; one of them may be locked: it lies so. -/
structure SetsAt (w : World) (p : Place) (n : Nat) (ls : List (Option KS)) (lk : Option (Nat × Nat × Array MapEntry × Nat)) (vs : Array Value) : Prop where
  val : p.val = .tuple vs
  size : vs.size = ls.length
  row : ∃ cs t, w.heap[p.blk]? = some (.cells cs t (0, 0)) ∧ p.off + ls.length ≤ cs.size ∧ p.room ≤ cs.size ∧ ∀ j, j < ls.length → cs[p.off + j]? = vs[j]?
  blk : p.foot p.blk
  has : ∀ (j : Nat) (l : KS), ls[j]? = some (some l) → ∃ b : Nat, vs[j]? = some (Value.map (some b)) ∧ b ≠ p.blk ∧ p.foot b ∧ ∃ es clock, MapAt w b n l es clock ∧ ∀ x, lk = some x → x.1 = j → x.2 = (b, es, clock)
  nil : ∀ (j : Nat), ls[j]? = some none → vs[j]? = some (Value.map none)
  foot : ∀ b, p.foot b → b = p.blk ∨ ∃ (j : Nat) (l : KS), ls[j]? = some (some l) ∧ vs[j]? = some (Value.map (some b))
  inj : ∀ (i j b : Nat), vs[i]? = some (Value.map (some b)) → vs[j]? = some (Value.map (some b)) → i = j
theorem SetsAt.out {w w' : World} {p : Place} {n : Nat} {ls : List (Option KS)} {lk : Option (Nat × Nat × Array MapEntry × Nat)} {vs : Array Value} (h : SetsAt w p n ls lk vs) (hb : ∀ b, p.foot b → b < w.heap.size → w'.heap[b]? = w.heap[b]?) : SetsAt w' p n ls lk vs := by
  have at_ : ∀ {b o}, p.foot b → w.heap[b]? = some o → w'.heap[b]? = some o := fun {b o} hf ho => (hb b hf (Array.getElem?_eq_some_iff.1 ho).1).trans ho
  refine { h with row := ?_, has := fun j l hl => ?_ }
  · obtain ⟨cs, t, h1, h2⟩ := h.row
    exact ⟨cs, t, at_ h.blk h1, h2⟩
  · obtain ⟨b, h1, h2, h3, es, clock, h4, h5⟩ := h.has j l hl
    exact ⟨b, h1, h2, h3, es, clock, { h4 with blk := at_ h3 h4.blk }, h5⟩
def MXRep (w : World) (p : Place) : MX → Prop
  | .set n l => p.val = Value.map (some p.blk) ∧ p.foot = (fun b => b = p.blk) ∧ ∃ es clock, MapAt w p.blk n l es clock
  | .sets n ls lk => ∃ vs, SetsAt w p n ls lk vs
  | .mit n mb es clock rem cur => (∀ x, (x ∈ rem ∨ cur = some x) → x.length = n) ∧ p.val = .pointer (some ⟨p.blk, 0, none⟩) ∧ p.foot = (fun b => b = p.blk) ∧ ∃ seen, w.heap[p.blk]? = some (.mapIter (some mb) clock seen clock) ∧ ((leftOf es seen).toList.map (·.key)).Perm (rem.map keyV) ∧
      ∀ x, cur = some x → ∃ e ∈ es.toList, e.key = keyV x ∧ seen.back? = some e.born
theorem MXRep.out {w w' : World} {p : Place} : ∀ {x : MX}, MXRep w p x → (∀ b, p.foot b → b < w.heap.size → w'.heap[b]? = w.heap[b]?) → MXRep w' p x
  | .set n l, ⟨h1, h2, es, clock, h3⟩, hb => ⟨h1, h2, es, clock, h3.out (hb _ (by rw [h2]) (Array.getElem?_eq_some_iff.1 h3.blk).1)⟩
  | .sets n ls lk, ⟨vs, h⟩, hb => ⟨vs, h.out hb⟩
  | .mit n mb es clock rem cur, ⟨h0, h1, h2, seen, h3, h4⟩, hb => ⟨h0, h1, h2, seen, (hb _ (by rw [h2]) (Array.getElem?_eq_some_iff.1 h3).1).trans h3, h4⟩

inductive DO where
  | cells (l : List DV)
  | ints (l : List Int)
  | bools (l : List Bool)
  | arr (m n : Nat) (f : Nat → Nat → DV)
  | iter (encs : List (Array Value))
  | mo (x : MX)

abbrev DH := List (Option DO)

/-- The blocks of the objects. -/
def MO (h : DH) (ρ : List Place) (b : Nat) : Prop := ∃ (k : Nat) (o : DO) (p : Place), h[k]? = some (some o) ∧ ρ[k]? = some p ∧ p.foot b
def MS (N : Nat → Prop) (h : DH) (ρ : List Place) (b : Nat) : Prop := N b ∨ MO h ρ b

/-- A row of cells that an object has. -/
def RowAt (w : World) (p : Place) (n : Nat) (R : Nat → Value → Prop) : Prop :=
  p.foot = (fun b => b = p.blk) ∧ ∃ cs t, w.heap[p.blk]? = some (.cells cs t (0, 0)) ∧ p.off + n ≤ cs.size ∧ p.room ≤ cs.size ∧ ∀ j, j < n → ∃ u, cs[p.off + j]? = some u ∧ R j u

def ObjRep (P : Program) (M : Nat → Prop) (w : World) (ρ : List Place) (p : Place) : DO → Prop
  | .cells l => RowAt w p l.length fun j u => RepV M w (l.getD j .any) ρ u
  | .ints l => RowAt w p l.length fun j u => u = .int .i64 (l.getD j 0)
  | .bools l => RowAt w p l.length fun j u => u = .bool (l.getD j false)
  | .arr m n f => RowAt w p (n * m) fun j u => RepV M w (f (j / m) (j % m)) [] u
  | .iter encs => ∃ gf lb Rd, (p.val = .func (.func gf) #[] lb ∧ ∀ args W, (callFunc gf args).run P W = .ok (.enter gf args) W) ∧ Iter P gf lb encs p.foot Rd w ∧ (∀ b, Rd b → ¬ M b ∧ b < w.heap.size) ∧ ∀ b, p.foot b → b < w.heap.size
  | .mo x => MXRep w p x

/-- Blocks that objects may have. -/
def heapy : Obj → Bool
  | .cells .. => true
  | .map .. => true
  | .mapIter .. => true
  | _ => false
abbrev Lies (w : World) (b : Nat) : Prop := ∃ (c : Obj) (_ : heapy c = true) (_ : Unit), w.heap[b]? = some c
theorem Lies.cells {w : World} {b : Nat} {c : Array Value} {t : TypeId} {z : Nat × Nat} (h : w.heap[b]? = some (.cells c t z)) : Lies w b := ⟨_, rfl, (), h⟩

/-- What is said of the program's own variables. -/
structure Glo where
  ng : Nat
  gi : World → Prop
  st : ∀ w w', gi w → Upd (fun b => ng ≤ b) w w' → gi w'
  lo : ∀ w, gi w → ng ≤ w.heap.size

structure HRel (P : Program) (Γ : Glo) (N : Nat → Prop) (h : DH) (ρ : List Place) (w : World) : Prop where
  len : ρ.length = h.length
  obj : ∀ (k : Nat) (o : DO), h[k]? = some (some o) → ∃ p : Place, ρ[k]? = some p ∧ ObjRep P (MS N h ρ) w ρ p o
  cel : ∀ (k : Nat) (o : DO) (p : Place) (b : Nat), h[k]? = some (some o) → ρ[k]? = some p → p.foot b → Γ.ng ≤ b ∧ ¬ N b ∧ Lies w b
  dis : ∀ (k k' : Nat) (o o' : DO) (p p' : Place) (b : Nat), k ≠ k' → h[k]? = some (some o) → h[k']? = some (some o') → ρ[k]? = some p → ρ[k']? = some p' → p.foot b → p'.foot b → False
  nlt : ∀ b, N b → b < w.heap.size ∧ Γ.ng ≤ b
  gi : Γ.gi w

structure St where
  fr : List DV
  h : DH

def FrRep (M : Nat → Prop) (w : World) (ρ : List Place) (fr : List DV) (t : Array Value) : Prop :=
  fr.length = t.size ∧ ∀ i, i < fr.length → RepV M w (fr.getD i .any) ρ (t.getD i undef)

structure Rel (P : Program) (Γ : Glo) (N : Nat → Prop) (S : St) (ρ : List Place) (a : Act) (w : World) : Prop where
  hr : HRel P Γ N S.h ρ w
  fr : FrRep (MS N S.h ρ) w ρ S.fr a.tmps

/-- From one state to a later one. -/
structure Step (h : DH) (ρ : List Place) (w : World) (h' : DH) (ρ' : List Place) (w' : World) : Prop where
  upd : Upd (MO h ρ) w w'
  grow : ∀ b, MO h' ρ' b → MO h ρ b ∨ w.heap.size ≤ b

theorem Step.refl (h : DH) (ρ : List Place) (w : World) : Step h ρ w h ρ w := ⟨Upd.refl _ _, fun _ h => .inl h⟩
theorem Step.trans {h h' h'' : DH} {ρ ρ' ρ'' : List Place} {w w' w'' : World} (x : Step h ρ w h' ρ' w') (y : Step h' ρ' w' h'' ρ'' w'') : Step h ρ w h'' ρ'' w'' :=
  ⟨x.upd.comp y.upd fun i hi hm => (x.grow i hm).resolve_right (by omega), fun b hb => (y.grow b hb).elim (fun h => x.grow b h) (fun h => .inr (Nat.le_trans x.upd.size h))⟩

/-- The same, places kept. -/
structure StepP (h : DH) (ρ : List Place) (w : World) (h' : DH) (ρ' : List Place) (w' : World) : Prop where
  st : Step h ρ w h' ρ' w'
  pl : ∀ (k : Nat) (p : Place), ρ[k]? = some p → ρ'[k]? = some p
theorem StepP.refl (h : DH) (ρ : List Place) (w : World) : StepP h ρ w h ρ w := ⟨Step.refl _ _ _, fun _ _ h => h⟩
theorem StepP.trans {h h' h'' : DH} {ρ ρ' ρ'' : List Place} {w w' w'' : World} (x : StepP h ρ w h' ρ' w') (y : StepP h' ρ' w' h'' ρ'' w'') : StepP h ρ w h'' ρ'' w'' :=
  ⟨x.st.trans y.st, fun k p hk => y.pl k p (x.pl k p hk)⟩

/-- What outlives: blocks outside M lie as they lay; M' has no old block that M has not; places are kept. -/
structure Outl (M : Nat → Prop) (w : World) (ρ : List Place) (M' : Nat → Prop) (w' : World) (ρ' : List Place) : Prop where
  blk : ∀ b, b < w.heap.size → ¬ M b → (∃ c t z, w.heap[b]? = some (.cells c t z)) → w'.heap[b]? = w.heap[b]?
  m : ∀ b, M' b → M b ∨ w.heap.size ≤ b
  pl : ∀ (k : Nat) (p : Place), ρ[k]? = some p → ρ'[k]? = some p

theorem cells_of_cell {w : World} {b o : Nat} {u : Value} (h : w.cell? ⟨b, o, none⟩ = some u) : ∃ c t z, w.heap[b]? = some (.cells c t z) := by
  unfold World.cell? at h
  split at h
  · exact ⟨_, _, _, by assumption⟩
  · cases h
theorem Outl.nil {M M' : Nat → Prop} {w w' : World} {ρ ρ' : List Place} (h : Outl M w ρ M' w' ρ') : Outl M w [] M' w' [] := ⟨h.blk, h.m, fun k p hk => by simp at hk⟩
theorem cell_block {w w' : World} {b o : Nat} (h : w'.heap[b]? = w.heap[b]?) : w'.cell? ⟨b, o, none⟩ = w.cell? ⟨b, o, none⟩ := by
  unfold World.cell?; rw [h]
theorem Outl.cell {M M' : Nat → Prop} {w w' : World} {ρ ρ' : List Place} (h : Outl M w ρ M' w' ρ') {b o : Nat} {u : Value} (hM : ¬ M b) (hc : w.cell? ⟨b, o, none⟩ = some u) : w'.cell? ⟨b, o, none⟩ = some u ∧ ¬ M' b := by
  have hlt : b < w.heap.size := World.block_lt_of_cell? w ⟨b, o, none⟩ hc
  exact ⟨(cell_block (h.blk b hlt hM (cells_of_cell hc))).trans hc, fun hm => (h.m b hm).elim hM (by omega)⟩

theorem RepV.out {M M' : Nat → Prop} {w w' : World} : ∀ (d : DV) {ρ ρ' : List Place} {v : Value}, Outl M w ρ M' w' ρ' → RepV M w d ρ v → RepV M' w' d ρ' v := by
  intro d
  induction d with
  | any => intros; trivial
  | nils => intro ρ ρ' v _ h; exact h
  | int k n => intro ρ ρ' v _ h; exact h
  | bool b => intro ρ ρ' v _ h; exact h
  | str s => intro ρ ρ' v _ h; exact h
  | ints l =>
    rintro ρ ρ' v H ⟨a, cap, e, h1, h2, h3⟩
    refine ⟨a, cap, e, h1, h2, fun j hj => ?_⟩
    obtain ⟨b, o, ha, hM, hc⟩ := h3 j hj
    obtain ⟨g1, g2⟩ := H.cell hM hc
    exact ⟨b, o, ha, g2, g1⟩
  | bools l =>
    rintro ρ ρ' v H ⟨a, cap, e, h1, h2, h3⟩
    refine ⟨a, cap, e, h1, h2, fun j hj => ?_⟩
    obtain ⟨b, o, ha, hM, hc⟩ := h3 j hj
    obtain ⟨g1, g2⟩ := H.cell hM hc
    exact ⟨b, o, ha, g2, g1⟩
  | sl m n f ih =>
    rintro ρ ρ' v H ⟨a, cap, e, h1, h2, h3⟩
    refine ⟨a, cap, e, h1, h2, fun i j hi hj => ?_⟩
    obtain ⟨b, o, u, ha, hM, hc, hr⟩ := h3 i j hi hj
    obtain ⟨g1, g2⟩ := H.cell hM hc
    exact ⟨b, o, u, ha, g2, g1, ih i j H.nil hr⟩
  | fp m f ih =>
    rintro ρ ρ' v H ⟨b, o, e, h⟩
    refine ⟨b, o, e, fun j hj => ?_⟩
    obtain ⟨hM, u, hc, hr⟩ := h j hj
    obtain ⟨g1, g2⟩ := H.cell hM hc
    exact ⟨g2, u, g1, ih j H.nil hr⟩
  | agg m f ih =>
    rintro ρ ρ' v H ⟨cs, e, hs, h⟩
    exact ⟨cs, e, hs, fun j hj => let ⟨u, h1, h2⟩ := h j hj; ⟨u, h1, ih j H h2⟩⟩
  | tup m f ih =>
    rintro ρ ρ' v H ⟨cs, e, hs, h⟩
    exact ⟨cs, e, hs, fun j hj => let ⟨u, h1, h2⟩ := h j hj; ⟨u, h1, ih j H h2⟩⟩
  | ref k j => rintro ρ ρ' v H ⟨p, h, e⟩; exact ⟨p, H.pl _ _ h, e⟩
  | msl k m off n => rintro ρ ρ' v H ⟨p, cap, h, r⟩; exact ⟨p, cap, H.pl _ _ h, r⟩
  | mp k m i j => rintro ρ ρ' v H ⟨p, h, e⟩; exact ⟨p, H.pl _ _ h, e⟩
  | fn g m c ih =>
    rintro ρ ρ' v H ⟨cs, e, hs, h⟩
    exact ⟨cs, e, hs, fun j hj => let ⟨u, h1, h2⟩ := h j hj; ⟨u, h1, ih j H h2⟩⟩
  | it k => rintro ρ ρ' v H ⟨p, h, e⟩; exact ⟨p, H.pl _ _ h, e⟩
  | yl l => intro ρ ρ' v _ h; exact h
  | mse k m off n => rintro ρ ρ' v H ⟨p, a, cap, h, r⟩; exact ⟨p, a, cap, H.pl _ _ h, r⟩
  | mri k i => rintro ρ ρ' v H ⟨p, vs, h, r⟩; exact ⟨p, vs, H.pl _ _ h, r⟩
  | cst u => intro ρ ρ' v _ h; exact h

theorem FrRep.out {M M' : Nat → Prop} {w w' : World} {ρ ρ' : List Place} {fr : List DV} {t : Array Value} (h : FrRep M w ρ fr t) (H : Outl M w ρ M' w' ρ') : FrRep M' w' ρ' fr t :=
  ⟨h.1, fun i hi => (h.2 i hi).out _ H⟩
theorem FrRep.at {M : Nat → Prop} {w : World} {ρ : List Place} {fr : List DV} {t : Array Value} (h : FrRep M w ρ fr t) (i : Nat) : RepV M w (fr.getD i .any) ρ (t.getD i undef) := by
  rcases Nat.lt_or_ge i fr.length with hi | hi
  · exact h.2 i hi
  · have : fr.getD i .any = .any := by rw [List.getD_eq_getElem?_getD, List.getElem?_eq_none hi]; rfl
    rw [this]; trivial
/-- Writing a slot. -/
theorem FrRep.set {M : Nat → Prop} {w : World} {ρ : List Place} {fr : List DV} {t : Array Value} (h : FrRep M w ρ fr t) (i : Nat) {d : DV} {v : Value} (hv : RepV M w d ρ v) : FrRep M w ρ (fr.set i d) (t.setIfInBounds i v) := by
  refine ⟨by simp [h.1], fun j hj => ?_⟩
  rw [List.length_set] at hj
  have hj' : j < t.size := by rw [← h.1]; exact hj
  have h0 := h.2 j hj
  simp only [List.getD_eq_getElem?_getD, Array.getD_eq_getD_getElem?, List.getElem?_set, Array.getElem?_setIfInBounds] at h0 ⊢
  by_cases e : i = j
  · subst e; simp [hj, hj', hv]
  · rw [if_neg e, if_neg e]; exact h0

theorem Iter.later {P : Program} {g : Nat} {lb : Array Value} {encs : List (Array Value)} {G0 Rd : Nat → Prop} {w w' : World} (h : Iter P g lb encs G0 Rd w) {S : Nat → Prop} (hu : Upd S w w') (hs : ∀ b, b < w.heap.size → S b → ¬ (G0 b ∨ Rd b)) : Iter P g lb encs G0 Rd w' :=
  fun l J Jx G W h1 h2 h3 => h l J Jx G W h1 h2 (hu.mono (fun i hi hx => hs i hi hx) |>.trans h3)

theorem RowAt.out {w w' : World} {p : Place} {n : Nat} {R R' : Nat → Value → Prop} (h : RowAt w p n R) (hb : w'.heap[p.blk]? = w.heap[p.blk]?) (hR : ∀ j u, j < n → R j u → R' j u) : RowAt w' p n R' := by
  obtain ⟨h1, cs, t, h2, h3, h4, h5⟩ := h
  exact ⟨h1, cs, t, hb.trans h2, h3, h4, fun j hj => let ⟨u, g1, g2⟩ := h5 j hj; ⟨u, g1, hR j u hj g2⟩⟩
theorem RowAt.cell {w : World} {p : Place} {n : Nat} {R : Nat → Value → Prop} (h : RowAt w p n R) {j : Nat} (hj : j < n) : ∃ u, w.cell? ⟨p.blk, p.off + j, none⟩ = some u ∧ R j u := by
  obtain ⟨h1, cs, t, h2, h3, h4, h5⟩ := h
  obtain ⟨u, g1, g2⟩ := h5 j hj
  exact ⟨u, by unfold World.cell?; simp [h2, g1], g2⟩
theorem RowAt.frozen {w : World} {p : Place} {n : Nat} {R : Nat → Value → Prop} (h : RowAt w p n R) (o : Nat) : w.frozen? ⟨p.blk, o, none⟩ = false := by
  obtain ⟨h1, cs, t, h2, _⟩ := h
  unfold World.frozen?; simp [h2]
/-- A cell of a row is written. -/
theorem RowAt.write {w : World} {p : Place} {n : Nat} {R R' : Nat → Value → Prop} (h : RowAt w p n R) {j : Nat} (_ : j < n) {v : Value} (hv : R' j v) (hR : ∀ i u, i < n → i ≠ j → R i u → R' i u) : RowAt (w.setCell ⟨p.blk, p.off + j, none⟩ v) p n R' := by
  obtain ⟨h1, cs, t, h2, h3, h4, h5⟩ := h
  refine ⟨h1, cs.setIfInBounds (p.off + j) v, t, ?_, by simpa using h3, by simpa using h4, fun i hi => ?_⟩
  · simp [World.setCell, Array.getElem?_modify, h2]
  · rw [Array.getElem?_setIfInBounds]
    by_cases e : i = j
    · subst e
      rw [if_pos rfl, if_pos (by omega)]
      exact ⟨v, rfl, hv⟩
    · rw [if_neg (by omega)]
      obtain ⟨u, g1, g2⟩ := h5 i hi
      exact ⟨u, g1, hR i u hi e g2⟩

theorem ObjRep.out {P : Program} {M M' : Nat → Prop} {w w' : World} {ρ ρ' : List Place} {p : Place} {o : DO} (h : ObjRep P M w ρ p o) (H : Outl M w ρ M' w' ρ') {S : Nat → Prop} (hu : Upd S w w') (hS : ∀ b, S b → M b) (hf : ∀ b, b < w.heap.size → p.foot b → ¬ S b) : ObjRep P M' w' ρ' p o := by
  have hb : ∀ {n R}, RowAt w p n R → w'.heap[p.blk]? = w.heap[p.blk]? := fun {n R} hr => by
    obtain ⟨h1, cs, t, h2, _⟩ := hr
    have hlt := (Array.getElem?_eq_some_iff.1 h2).1
    exact hu.block _ hlt (hf _ hlt (by rw [h1]))
  cases o with
  | cells l => exact RowAt.out h (hb h) fun j u _ hr => RepV.out _ H hr
  | ints l => exact RowAt.out h (hb h) fun j u _ hr => hr
  | bools l => exact RowAt.out h (hb h) fun j u _ hr => hr
  | arr m n f => exact RowAt.out h (hb h) fun j u _ hr => RepV.out _ H.nil hr
  | iter encs =>
    obtain ⟨gf, lb, Rd, h1, h2, h3, h4⟩ := h
    refine ⟨gf, lb, Rd, h1, h2.later hu (fun b hb hs hx => ?_), fun b hb => ⟨fun hm => (H.m b hm).elim (h3 b hb).1 (by have := (h3 b hb).2; omega), Nat.lt_of_lt_of_le (h3 b hb).2 hu.size⟩, fun b hb => Nat.lt_of_lt_of_le (h4 b hb) hu.size⟩
    rcases hx with hx | hx
    · exact hf b hb hx hs
    · exact (h3 b hx).1 (hS b hs)
  | mo x => exact MXRep.out h fun b hb hlt => hu.block b hlt (hf b hlt hb)

section
variable {P : Program} {Γ : Glo} {N : Nat → Prop} {h : DH} {ρ : List Place} {w : World}

theorem MO.unset {k : Nat} {b : Nat} (hm : MO (h.set k none) ρ b) : MO h ρ b := by
  obtain ⟨i, o, p, h1, h2, h3⟩ := hm
  rw [List.getElem?_set] at h1
  by_cases e : k = i
  · rw [if_pos e] at h1; split at h1 <;> cases h1
  · rw [if_neg e] at h1; exact ⟨i, o, p, h1, h2, h3⟩

theorem HRel.lt (H : HRel P Γ N h ρ w) {b : Nat} (hb : MS N h ρ b) : b < w.heap.size := by
  rcases hb with hb | ⟨k, o, p, h1, h2, h3⟩
  · exact (H.nlt b hb).1
  · obtain ⟨_, _, c, t, z, h4⟩ := H.cel k o p b h1 h2 h3
    exact (Array.getElem?_eq_some_iff.1 h4).1
theorem HRel.low (H : HRel P Γ N h ρ w) {b : Nat} (hb : MO h ρ b) : Γ.ng ≤ b := by
  obtain ⟨k, o, p, h1, h2, h3⟩ := hb
  exact (H.cel k o p b h1 h2 h3).1
theorem HRel.lt2 (H : HRel P Γ N h ρ w) {b : Nat} (hb : MS N h ρ b) : b < w.heap.size ∧ Γ.ng ≤ b := ⟨H.lt hb, hb.elim (fun h => (H.nlt b h).2) H.low⟩

/-- Everything old lies still. -/
theorem HRel.ext (H : HRel P Γ N h ρ w) {w' : World} (hE : Ext w w') : HRel P Γ N h ρ w' := by
  have O : Outl (MS N h ρ) w ρ (MS N h ρ) w' ρ := ⟨fun b hb _ _ => Below.block hE b hb, fun b h => .inl h, fun _ _ h => h⟩
  refine ⟨H.len, fun k o hk => ?_, fun k o p b h1 h2 h3 => ?_, H.dis, fun b hb => ⟨Nat.lt_of_lt_of_le (H.nlt b hb).1 hE.size, (H.nlt b hb).2⟩, Γ.st _ _ H.gi (Upd.ofExt hE)⟩
  · obtain ⟨p, hp, ho⟩ := H.obj k o hk
    exact ⟨p, hp, ho.out O (S := fun _ => False) (Upd.ofExt hE) (fun _ h => h.elim) (fun _ _ _ h => h)⟩
  · obtain ⟨g1, g2, c, t, z, g3⟩ := H.cel k o p b h1 h2 h3
    exact ⟨g1, g2, c, t, z, (Below.block hE b (Array.getElem?_eq_some_iff.1 g3).1).trans g3⟩
theorem Outl.ext {M : Nat → Prop} {w w' : World} (ρ : List Place) (hE : Ext w w') : Outl M w ρ M w' ρ := ⟨fun b hb _ _ => Below.block hE b hb, fun b h => .inl h, fun _ _ h => h⟩
theorem Step.ext {w w' : World} (hE : Ext w w') : Step h ρ w h ρ w' := ⟨Upd.ofExt hE, fun _ h => .inl h⟩

theorem get_snoc {α : Type} {l : List α} {x y : α} {k : Nat} (hk : (l ++ [x])[k]? = some y) : (k < l.length ∧ l[k]? = some y) ∨ (k = l.length ∧ x = y) := by
  rcases Nat.lt_trichotomy k l.length with hl | hl | hl
  · rw [List.getElem?_append_left hl] at hk; exact .inl ⟨hl, hk⟩
  · subst hl; simp at hk; exact .inr ⟨rfl, hk⟩
  · rw [List.getElem?_append_right (by omega)] at hk
    have : k - l.length ≠ 0 := by omega
    cases e : k - l.length with
    | zero => omega
    | succ m => rw [e] at hk; simp at hk
theorem get_snoc_left {α : Type} {l : List α} {x y : α} {k : Nat} (hk : l[k]? = some y) : (l ++ [x])[k]? = some y := by
  rw [List.getElem?_append_left (List.getElem?_eq_some_iff.1 hk).1]; exact hk

theorem MO.snoc (H : HRel P Γ N h ρ w) {o : DO} {p : Place} {b : Nat} (hb : MO (h ++ [some o]) (ρ ++ [p]) b) : MO h ρ b ∨ p.foot b := by
  obtain ⟨k, o', p', h1, h2, h3⟩ := hb
  rcases get_snoc h1 with ⟨hl, h1⟩ | ⟨hl, h1⟩
  · rcases get_snoc h2 with ⟨_, h2⟩ | ⟨hl2, _⟩
    · exact .inl ⟨k, o', p', h1, h2, h3⟩
    · rw [hl2, H.len] at hl; omega
  · rcases get_snoc h2 with ⟨hl2, _⟩ | ⟨_, h2⟩
    · rw [H.len, ← hl] at hl2; omega
    · subst h2; exact .inr h3
theorem MO.snocR {o : Option DO} {p : Place} {b : Nat} (hb : MO h ρ b) : MO (h ++ [o]) (ρ ++ [p]) b := by
  obtain ⟨k, o', p', h1, h2, h3⟩ := hb
  exact ⟨k, o', p', get_snoc_left h1, get_snoc_left h2, h3⟩

/-- A new object, its blocks new. -/
theorem HRel.snoc (H : HRel P Γ N h ρ w) {w' : World} (hE : Ext w w') {o : DO} {p : Place} (hf : ∀ b, p.foot b → w.heap.size ≤ b ∧ Lies w' b)
    (ho : ObjRep P (MS N (h ++ [some o]) (ρ ++ [p])) w' (ρ ++ [p]) p o) : HRel P Γ N (h ++ [some o]) (ρ ++ [p]) w' := by
  have O : Outl (MS N h ρ) w ρ (MS N (h ++ [some o]) (ρ ++ [p])) w' (ρ ++ [p]) := by
    refine ⟨fun b hb _ _ => Below.block hE b hb, fun b hb => ?_, fun k q hk => get_snoc_left hk⟩
    rcases hb with hb | hb
    · exact .inl (.inl hb)
    · rcases MO.snoc H hb with hb | hb
      · exact .inl (.inr hb)
      · exact .inr (hf b hb).1
  refine ⟨by simp [H.len], fun k o' hk => ?_, fun k o' p' b h1 h2 h3 => ?_, fun k k' o1 o2 p1 p2 b hne h1 h2 h3 h4 h5 h6 => ?_, fun b hb => ⟨Nat.lt_of_lt_of_le (H.nlt b hb).1 hE.size, (H.nlt b hb).2⟩, Γ.st _ _ H.gi (Upd.ofExt hE)⟩
  · rcases get_snoc hk with ⟨hl, hk⟩ | ⟨hl, hk⟩
    · obtain ⟨p', hp, hr⟩ := H.obj k o' hk
      exact ⟨p', get_snoc_left hp, hr.out O (S := fun _ => False) (Upd.ofExt hE) (fun _ h => h.elim) (fun _ _ _ h => h)⟩
    · cases hk
      exact ⟨p, by rw [hl, ← H.len]; simp, ho⟩
  · rcases get_snoc h1 with ⟨hl, h1⟩ | ⟨hl, h1⟩
    · rcases get_snoc h2 with ⟨_, h2⟩ | ⟨hl2, _⟩
      · obtain ⟨g1, g2, c, t, z, g3⟩ := H.cel k o' p' b h1 h2 h3
        exact ⟨g1, g2, c, t, z, (Below.block hE b (Array.getElem?_eq_some_iff.1 g3).1).trans g3⟩
      · rw [hl2, H.len] at hl; omega
    · rcases get_snoc h2 with ⟨hl2, _⟩ | ⟨_, h2⟩
      · rw [H.len, ← hl] at hl2; omega
      · subst h2
        obtain ⟨g1, g2⟩ := hf b h3
        exact ⟨Nat.le_trans (Γ.lo _ H.gi) g1, fun hn => by have := H.nlt b hn; omega, g2⟩
  · have old : ∀ {k : Nat} {o' : DO} {p' : Place}, (h ++ [some o])[k]? = some (some o') → (ρ ++ [p])[k]? = some p' → p'.foot b → k ≠ h.length → b < w.heap.size := by
      intro k o' p' h1 h2 h3 hne
      rcases get_snoc h1 with ⟨hl, h1⟩ | ⟨hl, h1⟩
      · rcases get_snoc h2 with ⟨_, h2⟩ | ⟨hl2, _⟩
        · exact H.lt (.inr ⟨k, o', p', h1, h2, h3⟩)
        · rw [hl2, H.len] at hl; omega
      · exact absurd hl hne
    have new : ∀ {k : Nat} {o' : DO} {p' : Place}, (h ++ [some o])[k]? = some (some o') → (ρ ++ [p])[k]? = some p' → p'.foot b → k = h.length → w.heap.size ≤ b := by
      intro k o' p' h1 h2 h3 he
      rcases get_snoc h2 with ⟨hl2, _⟩ | ⟨_, h2⟩
      · rw [H.len, ← he] at hl2; omega
      · subst h2; exact (hf b h3).1
    by_cases e1 : k = h.length
    · by_cases e2 : k' = h.length
      · exact hne (e1.trans e2.symm)
      · have := new h1 h3 h5 e1; have := old h2 h4 h6 e2; omega
    · by_cases e2 : k' = h.length
      · have := old h1 h3 h5 e1; have := new h2 h4 h6 e2; omega
      · rcases get_snoc h1 with ⟨_, h1⟩ | ⟨hl, _⟩
        · rcases get_snoc h2 with ⟨_, h2⟩ | ⟨hl, _⟩
          · rcases get_snoc h3 with ⟨_, h3⟩ | ⟨hl, _⟩
            · rcases get_snoc h4 with ⟨_, h4⟩ | ⟨hl, _⟩
              · exact H.dis k k' o1 o2 p1 p2 b hne h1 h2 h3 h4 h5 h6
              · rw [H.len] at hl; exact e2 hl
            · rw [H.len] at hl; exact e1 hl
          · exact e2 hl
        · exact e1 hl
theorem Outl.snoc (H : HRel P Γ N h ρ w) {w' : World} (hE : Ext w w') {o : DO} {p : Place} (hf : ∀ b, p.foot b → w.heap.size ≤ b) : Outl (MS N h ρ) w ρ (MS N (h ++ [some o]) (ρ ++ [p])) w' (ρ ++ [p]) := by
  refine ⟨fun b hb _ _ => Below.block hE b hb, fun b hb => ?_, fun k q hk => get_snoc_left hk⟩
  rcases hb with hb | hb
  · exact .inl (.inl hb)
  · rcases MO.snoc H hb with hb | hb
    · exact .inl (.inr hb)
    · exact .inr (hf b hb)
theorem Step.snoc (H : HRel P Γ N h ρ w) {w' : World} (hE : Ext w w') {o : DO} {p : Place} (hf : ∀ b, p.foot b → w.heap.size ≤ b) : Step h ρ w (h ++ [some o]) (ρ ++ [p]) w' :=
  ⟨Upd.ofExt hE, fun b hb => (MO.snoc H hb).imp id (hf b)⟩

/-- An object is written, in its own blocks. -/
theorem MO.set {k : Nat} {o o' : DO} (hk : h[k]? = some (some o)) {b : Nat} : MO (h.set k (some o')) ρ b ↔ MO h ρ b := by
  have hl := (List.getElem?_eq_some_iff.1 hk).1
  constructor
  · rintro ⟨i, o1, p, h1, h2, h3⟩
    rw [List.getElem?_set] at h1
    by_cases e : k = i
    · subst e; exact ⟨k, o, p, hk, h2, h3⟩
    · rw [if_neg e] at h1; exact ⟨i, o1, p, h1, h2, h3⟩
  · rintro ⟨i, o1, p, h1, h2, h3⟩
    by_cases e : k = i
    · subst e; exact ⟨k, o', p, by simp [hl], h2, h3⟩
    · exact ⟨i, o1, p, by rw [List.getElem?_set, if_neg e]; exact h1, h2, h3⟩
theorem MS.set {k : Nat} {o o' : DO} (hk : h[k]? = some (some o)) {b : Nat} : MS N (h.set k (some o')) ρ b ↔ MS N h ρ b := by unfold MS; rw [MO.set hk]

theorem HRel.write (H : HRel P Γ N h ρ w) {w' : World} {k : Nat} {o o' : DO} {p : Place} (hk : h[k]? = some (some o)) (hp : ρ[k]? = some p) (hu : Upd p.foot w w')
    (hc : ∀ b, p.foot b → Lies w' b) (ho : ObjRep P (MS N (h.set k (some o')) ρ) w' ρ p o') : HRel P Γ N (h.set k (some o')) ρ w' := by
  have hl := (List.getElem?_eq_some_iff.1 hk).1
  have hM : ∀ b, p.foot b → MS N h ρ b := fun b hb => .inr ⟨k, o, p, hk, hp, hb⟩
  have O : Outl (MS N h ρ) w ρ (MS N (h.set k (some o')) ρ) w' ρ := ⟨fun b hb hm _ => hu.block b hb fun hx => hm (hM b hx), fun b hb => .inl ((MS.set hk).1 hb), fun _ _ h => h⟩
  have hget : ∀ {i : Nat} {o1 : DO}, i ≠ k → (h.set k (some o'))[i]? = some (some o1) → h[i]? = some (some o1) := fun {i} {o1} hne h1 => by rw [List.getElem?_set, if_neg (Ne.symm hne)] at h1; exact h1
  refine ⟨by simp [H.len], fun i o1 hi => ?_, fun i o1 p1 b h1 h2 h3 => ?_, fun i i' o1 o2 p1 p2 b hne h1 h2 h3 h4 h5 h6 => ?_, fun b hb => ⟨Nat.lt_of_lt_of_le (H.nlt b hb).1 hu.size, (H.nlt b hb).2⟩, Γ.st _ _ H.gi (hu.mono fun b _ hb => (H.cel k o p b hk hp hb).1)⟩
  · by_cases e : i = k
    · subst e
      have : o' = o1 := by simp [hl] at hi; exact hi
      subst this; exact ⟨p, hp, ho⟩
    · obtain ⟨p1, hp1, hr⟩ := H.obj i o1 (hget e hi)
      exact ⟨p1, hp1, hr.out O hu hM fun b _ h1 h2 => H.dis i k o1 o p1 p b e (hget e hi) hk hp1 hp h1 h2⟩
  · by_cases e : i = k
    · subst e
      have : p = p1 := Option.some.inj (hp.symm.trans h2)
      subst this
      obtain ⟨g1, g2, _⟩ := H.cel i o p b hk hp h3
      exact ⟨g1, g2, hc b h3⟩
    · obtain ⟨g1, g2, c, t, z, g3⟩ := H.cel i o1 p1 b (hget e h1) h2 h3
      refine ⟨g1, g2, c, t, z, (hu.block b (Array.getElem?_eq_some_iff.1 g3).1 fun hx => H.dis i k o1 o p1 p b e (hget e h1) hk h2 hp h3 hx).trans g3⟩
  · have old : ∀ {i : Nat} {o1 : DO}, (h.set k (some o'))[i]? = some (some o1) → ∃ o2, h[i]? = some (some o2) := fun {i} {o1} h1 => by
      by_cases e : i = k
      · subst e; exact ⟨o, hk⟩
      · exact ⟨o1, hget e h1⟩
    obtain ⟨q1, g1⟩ := old h1
    obtain ⟨q2, g2⟩ := old h2
    exact H.dis i i' q1 q2 p1 p2 b hne g1 g2 h3 h4 h5 h6
theorem Outl.write (hN : True) {w' : World} {k : Nat} {o o' : DO} {p : Place} (hk : h[k]? = some (some o)) (hp : ρ[k]? = some p) (hu : Upd p.foot w w') : Outl (MS N h ρ) w ρ (MS N (h.set k (some o')) ρ) w' ρ :=
  ⟨fun b hb hm _ => hu.block b hb fun hx => hm (.inr ⟨k, o, p, hk, hp, hx⟩), fun b hb => .inl ((MS.set hk).1 hb), fun _ _ h => h⟩
theorem Step.write {w' : World} {k : Nat} {o o' : DO} {p : Place} (hk : h[k]? = some (some o)) (hp : ρ[k]? = some p) (hu : Upd p.foot w w') : Step h ρ w (h.set k (some o')) ρ w' :=
  ⟨hu.mono fun b _ hb => ⟨k, o, p, hk, hp, hb⟩, fun b hb => .inl ((MO.set hk).1 hb)⟩
end
end Go.Proofs.YtekkngkphejfcaaDoor
