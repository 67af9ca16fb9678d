/- Readings of the program's data in memory: slices as lists, problems, constraints; how they outlive calls that keep what was there. -/
import Derived.WalkKit
import Derived.WalkSpells
import Derived.WalkLawsBesides
import Derived.Lib.Hide
namespace Go.Proofs.YtekkngkphejfcaaDoor
open Go.RowKit

/-- What lay in memory lies there still. -/
def Ext (w w' : World) : Prop := Below w.heap.size w w'
theorem Ext.refl (w : World) : Ext w w := Below.refl _ _
theorem Ext.trans {a b c : World} (h : Ext a b) (k : Ext b c) : Ext a c := Below.trans h (Below.mono k h.size)
theorem Ext.alloc (w : World) (o : Obj) : Ext w (w.alloc o) := (Below.refl _ _).alloc (Nat.le_refl _) o
theorem Ext.ofAlloc {w w' : World} {o : Obj} (h : Ext (w.alloc o) w') : Ext w w' := (Ext.alloc w o).trans h
theorem Ext.allocR {w w' : World} (h : Ext w w') (o : Obj) : Ext w (w'.alloc o) := h.trans (Ext.alloc w' o)
theorem Ext.drewR {w w' : World} (h : Ext w w') : Ext w w'.drew := Below.drew h
theorem Ext.ofDrew {w w' : World} (h : Ext w.drew w') : Ext w w' := Ext.trans (Ext.drewR (Ext.refl w)) h
theorem Ext.undrew (w : World) : Ext w.drew w := ⟨rfl, rfl, rfl, Nat.le_refl _, fun _ _ => rfl⟩
theorem Ext.below {w w' : World} (h : Ext w w') : Below w.heap.size w w' := h
theorem Ext.size {w w' : World} (h : Ext w w') : w.heap.size ≤ w'.heap.size := Below.size h
theorem Ext.cells {w w' : World} (h : Ext w w') : ∀ b o, b < w.heap.size → w'.cell? ⟨b, o, none⟩ = w.cell? ⟨b, o, none⟩ :=
  fun b o hb => Below.cell h (p := ⟨b, o, none⟩) hb
theorem Ext.frozens {w w' : World} (h : Ext w w') : ∀ b o, b < w.heap.size → w'.frozen? ⟨b, o, none⟩ = w.frozen? ⟨b, o, none⟩ :=
  fun b o hb => Below.frozen h (p := ⟨b, o, none⟩) hb
theorem Ext.cell {w w' : World} (h : Ext w w') {b o : Nat} {u : Value} (hc : w.cell? ⟨b, o, none⟩ = some u) : w'.cell? ⟨b, o, none⟩ = some u := by
  rw [h.cells b o (World.block_lt_of_cell? w ⟨b, o, none⟩ hc)]; exact hc

/-- A reading that outlives. -/
def Stays {α : Type} (R : World → Value → α → Prop) : Prop := ∀ w w' v x, Ext w w' → R w v x → R w' v x

/-- A slice of elements of one cell each. -/
def SlAt {α : Type} (R : World → Value → α → Prop) (w : World) (v : Value) (xs : List α) : Prop :=
  ∃ (a : Option Addr) (cap : Nat), v = .slice a xs.length cap ∧ xs.length ≤ 140737488355328 ∧
    ∀ i, (h : i < xs.length) → ∃ (b off : Nat) (u : Value), a = some ⟨b, off, none⟩ ∧ w.cell? ⟨b, off + i, none⟩ = some u ∧ R w u xs[i]

def IsInt (_ : World) (v : Value) (x : Int) : Prop := v = .int .i64 x
def IsBool (_ : World) (v : Value) (x : Bool) : Prop := v = .bool x
def IntsAt (w : World) (v : Value) (xs : List Int) : Prop := SlAt IsInt w v xs
def BoolsAt (w : World) (v : Value) (xs : List Bool) : Prop := SlAt IsBool w v xs
def RowsAt (w : World) (v : Value) (xs : List (List Int)) : Prop := SlAt IntsAt w v xs

theorem SlAt.stays {α : Type} {R : World → Value → α → Prop} (hR : Stays R) : Stays (SlAt R) := by
  rintro w w' v xs hE ⟨a, cap, rfl, hl, h⟩
  refine ⟨a, cap, rfl, hl, fun i hi => ?_⟩
  obtain ⟨b, off, u, ha, hc, hr⟩ := h i hi
  exact ⟨b, off, u, ha, hE.cell hc, hR _ _ _ _ hE hr⟩
theorem isInt_stays : Stays IsInt := fun _ _ _ _ _ h => h
theorem isBool_stays : Stays IsBool := fun _ _ _ _ _ h => h
theorem intsAt_stays : Stays IntsAt := SlAt.stays isInt_stays
theorem boolsAt_stays : Stays BoolsAt := SlAt.stays isBool_stays
theorem rowsAt_stays : Stays RowsAt := SlAt.stays intsAt_stays
theorem IntsAt.ext {w w' : World} {v : Value} {xs : List Int} (h : IntsAt w v xs) (hE : Ext w w') : IntsAt w' v xs := intsAt_stays _ _ _ _ hE h
theorem BoolsAt.ext {w w' : World} {v : Value} {xs : List Bool} (h : BoolsAt w v xs) (hE : Ext w w') : BoolsAt w' v xs := boolsAt_stays _ _ _ _ hE h
theorem RowsAt.ext {w w' : World} {v : Value} {xs : List (List Int)} (h : RowsAt w v xs) (hE : Ext w w') : RowsAt w' v xs := rowsAt_stays _ _ _ _ hE h

theorem SlAt.shape {α : Type} {R : World → Value → α → Prop} {w : World} {v : Value} {xs : List α} (h : SlAt R w v xs) :
    ∃ (a : Option Addr) (cap : Nat), v = .slice a xs.length cap ∧ xs.length ≤ 140737488355328 := let ⟨a, cap, e, hl, _⟩ := h; ⟨a, cap, e, hl⟩
theorem IntsAt.shape {w : World} {v : Value} {xs : List Int} (h : IntsAt w v xs) : ∃ (a : Option Addr) (cap : Nat), v = .slice a xs.length cap ∧ xs.length ≤ 140737488355328 := SlAt.shape h
theorem BoolsAt.shape {w : World} {v : Value} {xs : List Bool} (h : BoolsAt w v xs) : ∃ (a : Option Addr) (cap : Nat), v = .slice a xs.length cap ∧ xs.length ≤ 140737488355328 := SlAt.shape h
theorem RowsAt.shape {w : World} {v : Value} {xs : List (List Int)} (h : RowsAt w v xs) : ∃ (a : Option Addr) (cap : Nat), v = .slice a xs.length cap ∧ xs.length ≤ 140737488355328 := SlAt.shape h
theorem SlAt.base {α : Type} {R : World → Value → α → Prop} {w : World} {a : Option Addr} {n cap : Nat} {xs : List α} (h : SlAt R w (.slice a n cap) xs) {i : Nat} (hi : i < xs.length) :
    ∃ b off, a = some ⟨b, off, none⟩ := by
  obtain ⟨a', cap', e, _, h⟩ := h
  cases e
  obtain ⟨b, off, u, ha, _⟩ := h i hi
  exact ⟨b, off, ha⟩
theorem IntsAt.base {w : World} {a : Option Addr} {n cap : Nat} {xs : List Int} (h : IntsAt w (.slice a n cap) xs) {i : Nat} (hi : i < xs.length) : ∃ b off, a = some ⟨b, off, none⟩ := SlAt.base h hi
theorem BoolsAt.base {w : World} {a : Option Addr} {n cap : Nat} {xs : List Bool} (h : BoolsAt w (.slice a n cap) xs) {i : Nat} (hi : i < xs.length) : ∃ b off, a = some ⟨b, off, none⟩ := SlAt.base h hi
theorem RowsAt.base {w : World} {a : Option Addr} {n cap : Nat} {xs : List (List Int)} (h : RowsAt w (.slice a n cap) xs) {i : Nat} (hi : i < xs.length) : ∃ b off, a = some ⟨b, off, none⟩ := SlAt.base h hi
theorem SlAt.at {α : Type} {R : World → Value → α → Prop} {w : World} {b off n cap : Nat} {xs : List α} (h : SlAt R w (.slice (some ⟨b, off, none⟩) n cap) xs) (i : Nat) (hi : i < xs.length) :
    ∃ u, w.cell? ⟨b, off + i, none⟩ = some u ∧ R w u xs[i] := by
  obtain ⟨a', cap', e, _, h⟩ := h
  cases e
  obtain ⟨b', off', u, ha, hc, hr⟩ := h i hi
  cases ha
  exact ⟨u, hc, hr⟩
theorem IntsAt.at {w : World} {b off n cap : Nat} {xs : List Int} (h : IntsAt w (.slice (some ⟨b, off, none⟩) n cap) xs) (i : Nat) (hi : i < xs.length) : w.cell? ⟨b, off + i, none⟩ = some (.int .i64 xs[i]) := by
  obtain ⟨u, hc, rfl⟩ := SlAt.at h i hi; exact hc
theorem BoolsAt.at {w : World} {b off n cap : Nat} {xs : List Bool} (h : BoolsAt w (.slice (some ⟨b, off, none⟩) n cap) xs) (i : Nat) (hi : i < xs.length) : w.cell? ⟨b, off + i, none⟩ = some (.bool xs[i]) := by
  obtain ⟨u, hc, rfl⟩ := SlAt.at h i hi; exact hc
theorem RowsAt.at {w : World} {b off n cap : Nat} {xs : List (List Int)} (h : RowsAt w (.slice (some ⟨b, off, none⟩) n cap) xs) (i : Nat) (hi : i < xs.length) :
    ∃ (a : Option Addr) (c : Nat), w.cell? ⟨b, off + i, none⟩ = some (.slice a xs[i].length c) ∧ IntsAt w (.slice a xs[i].length c) xs[i] := by
  obtain ⟨u, hc, hr⟩ := SlAt.at h i hi
  obtain ⟨a, c, rfl, _⟩ := IntsAt.shape hr
  exact ⟨a, c, hc, hr⟩
theorem SlAt.len {α : Type} {R : World → Value → α → Prop} {w : World} {a : Option Addr} {n cap : Nat} {xs : List α} (h : SlAt R w (.slice a n cap) xs) : n = xs.length := by
  obtain ⟨a', cap', e, _, h⟩ := h; cases e; rfl
theorem SlAt.nil {α : Type} (R : World → Value → α → Prop) (w : World) (a : Option Addr) (cap : Nat) : SlAt R w (.slice a 0 cap) [] := ⟨a, cap, rfl, by simp, fun i hi => absurd hi (by simp)⟩
theorem IntsAt.nil (w : World) (a : Option Addr) (cap : Nat) : IntsAt w (.slice a 0 cap) [] := SlAt.nil _ _ _ _

/-- An error code: 0, or one. -/
def errOf (b : Bool) (e : Int) : Int := if b then 0 else e
theorem errOf_true (e : Int) : errOf true e = 0 := rfl
theorem errOf_false (e : Int) : errOf false e = e := rfl
theorem ret_int {k : IntKind} {a b : Int} (h : a = b) : Ending.returned (.int k a) = .returned (.int k b) := by rw [h]
theorem ret_bool {a b : Bool} (h : a = b) : Ending.returned (.bool a) = .returned (.bool b) := by rw [h]

/-- A constraint, a problem. -/
structure ConsD where
  kind : Int
  cells : List Int
  set : Int
  other : Int
  lo : Int
  hi : Int
  runs : List Int
  rule : Int
  spot : Int
  deriving DecidableEq, Inhabited
structure ProbD where
  cells : Int
  symbols : Int
  values : List Int
  nbrs : List (List Int)
  cons : List ConsD
  deriving DecidableEq, Inhabited

def ConsVal (c : ConsD) (vc vr : Value) : Value := .agg #[.int .i64 c.kind, vc, .int .i64 c.set, .int .i64 c.other, .int .i64 c.lo, .int .i64 c.hi, vr, .int .i64 c.rule, .int .i64 c.spot]
def ConsAt (w : World) (v : Value) (c : ConsD) : Prop := ∃ vc vr, v = ConsVal c vc vr ∧ IntsAt w vc c.cells ∧ IntsAt w vr c.runs
/-- Nine cells that hold a constraint. -/
def ConsCells (w : World) (b off : Nat) (c : ConsD) : Prop := ∃ vc vr,
  (w.cell? ⟨b, off, none⟩ = some (.int .i64 c.kind) ∧ w.cell? ⟨b, off + 1, none⟩ = some vc ∧ w.cell? ⟨b, off + 2, none⟩ = some (.int .i64 c.set) ∧
   w.cell? ⟨b, off + 3, none⟩ = some (.int .i64 c.other) ∧ w.cell? ⟨b, off + 4, none⟩ = some (.int .i64 c.lo) ∧ w.cell? ⟨b, off + 5, none⟩ = some (.int .i64 c.hi) ∧
   w.cell? ⟨b, off + 6, none⟩ = some vr ∧ w.cell? ⟨b, off + 7, none⟩ = some (.int .i64 c.rule) ∧ w.cell? ⟨b, off + 8, none⟩ = some (.int .i64 c.spot)) ∧
  IntsAt w vc c.cells ∧ IntsAt w vr c.runs
def ConsesAt (w : World) (v : Value) (cs : List ConsD) : Prop :=
  ∃ (a : Option Addr) (cap : Nat), v = .slice a cs.length cap ∧ cs.length ≤ 140737488355328 ∧
    ∀ i, (h : i < cs.length) → ∃ (b off : Nat), a = some ⟨b, off, none⟩ ∧ ConsCells w b (off + i * 9) cs[i]
theorem consAt_stays : Stays ConsAt := by
  rintro w w' v c hE ⟨vc, vr, rfl, h1, h2⟩
  exact ⟨vc, vr, rfl, h1.ext hE, h2.ext hE⟩
theorem ConsCells.ext {w w' : World} {b off : Nat} {c : ConsD} (h : ConsCells w b off c) (hE : Ext w w') : ConsCells w' b off c := by
  obtain ⟨vc, vr, ⟨h0, h1, h2, h3, h4, h5, h6, h7, h8⟩, g1, g2⟩ := h
  exact ⟨vc, vr, ⟨hE.cell h0, hE.cell h1, hE.cell h2, hE.cell h3, hE.cell h4, hE.cell h5, hE.cell h6, hE.cell h7, hE.cell h8⟩, g1.ext hE, g2.ext hE⟩
theorem ConsesAt.ext {w w' : World} {v : Value} {cs : List ConsD} (h : ConsesAt w v cs) (hE : Ext w w') : ConsesAt w' v cs := by
  obtain ⟨a, cap, rfl, hl, h⟩ := h
  refine ⟨a, cap, rfl, hl, fun i hi => ?_⟩
  obtain ⟨b, off, ha, hc⟩ := h i hi
  exact ⟨b, off, ha, hc.ext hE⟩
theorem ConsAt.ext {w w' : World} {v : Value} {c : ConsD} (h : ConsAt w v c) (hE : Ext w w') : ConsAt w' v c := consAt_stays _ _ _ _ hE h
theorem ConsesAt.shape {w : World} {v : Value} {cs : List ConsD} (h : ConsesAt w v cs) : ∃ (a : Option Addr) (cap : Nat), v = .slice a cs.length cap ∧ cs.length ≤ 140737488355328 := let ⟨a, cap, e, hl, _⟩ := h; ⟨a, cap, e, hl⟩
theorem ConsesAt.base {w : World} {a : Option Addr} {n cap : Nat} {cs : List ConsD} (h : ConsesAt w (.slice a n cap) cs) {i : Nat} (hi : i < cs.length) : ∃ b off, a = some ⟨b, off, none⟩ := by
  obtain ⟨a', cap', e, _, h⟩ := h
  cases e
  obtain ⟨b, off, ha, _⟩ := h i hi
  exact ⟨b, off, ha⟩
theorem ConsesAt.at {w : World} {b off n cap : Nat} {cs : List ConsD} (h : ConsesAt w (.slice (some ⟨b, off, none⟩) n cap) cs) (i : Nat) (hi : i < cs.length) : ConsCells w b (off + i * 9) cs[i] := by
  obtain ⟨a', cap', e, _, h⟩ := h
  cases e
  obtain ⟨b', off', ha, hc⟩ := h i hi
  cases ha
  exact hc

def ProbAt (w : World) (v : Value) (q : ProbD) : Prop := ∃ vv vn vc,
  v = .agg #[.int .i64 q.cells, .int .i64 q.symbols, vv, vn, vc] ∧ IntsAt w vv q.values ∧ RowsAt w vn q.nbrs ∧ ConsesAt w vc q.cons
theorem probAt_stays : Stays ProbAt := by
  rintro w w' v q hE ⟨vv, vn, vc, rfl, h1, h2, h3⟩
  exact ⟨vv, vn, vc, rfl, h1.ext hE, h2.ext hE, h3.ext hE⟩
theorem ProbAt.ext {w w' : World} {v : Value} {q : ProbD} (h : ProbAt w v q) (hE : Ext w w') : ProbAt w' v q := probAt_stays _ _ _ _ hE h
/-- A variable that holds a problem. -/
def ProbCells (w : World) (b : Nat) (q : ProbD) : Prop := ∃ vv vn vc,
  (w.cell? ⟨b, 0, none⟩ = some (.int .i64 q.cells) ∧ w.cell? ⟨b, 1, none⟩ = some (.int .i64 q.symbols) ∧ w.cell? ⟨b, 2, none⟩ = some vv ∧ w.cell? ⟨b, 3, none⟩ = some vn ∧ w.cell? ⟨b, 4, none⟩ = some vc) ∧
  IntsAt w vv q.values ∧ RowsAt w vn q.nbrs ∧ ConsesAt w vc q.cons
theorem ProbCells.ext {w w' : World} {b : Nat} {q : ProbD} (h : ProbCells w b q) (hE : Ext w w') : ProbCells w' b q := by
  obtain ⟨vv, vn, vc, ⟨h0, h1, h2, h3, h4⟩, g1, g2, g3⟩ := h
  exact ⟨vv, vn, vc, ⟨hE.cell h0, hE.cell h1, hE.cell h2, hE.cell h3, hE.cell h4⟩, g1.ext hE, g2.ext hE, g3.ext hE⟩

/-- A block of cells, known whole. -/
def Box (w : World) (b : Nat) (cs : Array Value) (t : TypeId) : Prop := w.heap[b]? = some (.cells cs t (0, 0))
theorem Box.lt {w : World} {b : Nat} {cs : Array Value} {t : TypeId} (h : Box w b cs t) : b < w.heap.size := (Array.getElem?_eq_some_iff.1 h).1
theorem Box.cell {w : World} {b : Nat} {cs : Array Value} {t : TypeId} (h : Box w b cs t) (o : Nat) : w.cell? ⟨b, o, none⟩ = cs[o]? := by
  unfold Box at h; simp [World.cell?, h]
theorem Box.frozen {w : World} {b : Nat} {cs : Array Value} {t : TypeId} (h : Box w b cs t) (o : Nat) : w.frozen? ⟨b, o, none⟩ = false := by
  unfold Box at h; simp [World.frozen?, h]
theorem Box.new (w : World) (cs : Array Value) (t : TypeId) : Box (w.alloc (.cells cs t)) w.heap.size cs t := heap_alloc_new w _
theorem Box.ext {w w' : World} {b : Nat} {cs : Array Value} {t : TypeId} (h : Box w b cs t) (hE : Ext w w') : Box w' b cs t := (Below.block hE b h.lt).trans h
theorem Box.alloc {w : World} {b : Nat} {cs : Array Value} {t : TypeId} (h : Box w b cs t) (o : Obj) : Box (w.alloc o) b cs t := h.ext (Ext.alloc w o)
theorem Box.other {w : World} {b : Nat} {cs : Array Value} {t : TypeId} (h : Box w b cs t) {p : Addr} (hne : b ≠ p.block) (u : Value) : Box (w.setCell p u) b cs t :=
  (Below.heap_setCell w p u b hne).trans h
theorem Box.set {w : World} {b : Nat} {cs : Array Value} {t : TypeId} (h : Box w b cs t) (o : Nat) (u : Value) : Box (w.setCell ⟨b, o, none⟩ u) b (cs.setIfInBounds o u) t := by
  unfold Box at *
  simp [World.setCell, h, Array.getElem?_modify]
theorem IntsAt.pair (w : World) (x y : Int) (t : TypeId) : IntsAt (w.alloc (.cells #[.int .i64 x, .int .i64 y] t)) (.slice (some ⟨w.heap.size, 0, none⟩) 2 2) [x, y] := by
  refine ⟨_, _, rfl, by simp, fun i hi => ?_⟩
  have h := (Box.new w #[.int .i64 x, .int .i64 y] t).cell (0 + i)
  simp at hi
  match i, hi with
  | 0, _ => exact ⟨_, _, _, rfl, h, rfl⟩
  | 1, _ => exact ⟨_, _, _, rfl, h, rfl⟩
theorem IntsAt.drew {w : World} {v : Value} {xs : List Int} (h : IntsAt w v xs) : IntsAt w.drew v xs := h.ext (Ext.drewR (Ext.refl w))
theorem ProbCells.ofBox {w : World} {b t : Nat} {q : ProbD} {vv vn vc : Value} (h : Box w b #[.int .i64 q.cells, .int .i64 q.symbols, vv, vn, vc] t) (h1 : IntsAt w vv q.values) (h2 : RowsAt w vn q.nbrs) (h3 : ConsesAt w vc q.cons) : ProbCells w b q :=
  ⟨vv, vn, vc, ⟨h.cell 0, h.cell 1, h.cell 2, h.cell 3, h.cell 4⟩, h1, h2, h3⟩
/-- A block of n cells, each known. -/
def RowBox (w : World) (b n : Nat) (t : TypeId) (f : Nat → Value) : Prop := ∃ cs, Box w b cs t ∧ cs.size = n ∧ ∀ j, j < n → cs[j]? = some (f j)
theorem RowBox.cell {w : World} {b n : Nat} {t : TypeId} {f : Nat → Value} (h : RowBox w b n t f) {j : Nat} (hj : j < n) : w.cell? ⟨b, j, none⟩ = some (f j) := by
  obtain ⟨cs, hb, hs, hf⟩ := h; rw [hb.cell]; exact hf j hj
theorem RowBox.frozen {w : World} {b n : Nat} {t : TypeId} {f : Nat → Value} (h : RowBox w b n t f) (j : Nat) : w.frozen? ⟨b, j, none⟩ = false := by
  obtain ⟨cs, hb, _⟩ := h; exact hb.frozen j
theorem RowBox.lt {w : World} {b n : Nat} {t : TypeId} {f : Nat → Value} (h : RowBox w b n t f) : b < w.heap.size := by obtain ⟨cs, hb, _⟩ := h; exact hb.lt
theorem RowBox.ext {w w' : World} {b n : Nat} {t : TypeId} {f : Nat → Value} (h : RowBox w b n t f) (hE : Ext w w') : RowBox w' b n t f := by
  obtain ⟨cs, hb, r⟩ := h; exact ⟨cs, hb.ext hE, r⟩
theorem RowBox.other {w : World} {b n : Nat} {t : TypeId} {f : Nat → Value} (h : RowBox w b n t f) {p : Addr} (hne : b ≠ p.block) (u : Value) : RowBox (w.setCell p u) b n t f := by
  obtain ⟨cs, hb, r⟩ := h; exact ⟨cs, hb.other hne u, r⟩
theorem RowBox.set {w : World} {b n : Nat} {t : TypeId} {f g : Nat → Value} (h : RowBox w b n t f) {i : Nat} (hi : i < n) (u : Value) (hg : ∀ j, j < n → g j = if j = i then u else f j) : RowBox (w.setCell ⟨b, i, none⟩ u) b n t g := by
  obtain ⟨cs, hb, hs, hf⟩ := h
  refine ⟨_, hb.set i u, by simp [hs], fun j hj => ?_⟩
  rw [hg j hj, Array.getElem?_setIfInBounds]
  by_cases e : i = j
  · subst e; simp [hs, hi]
  · rw [if_neg e, if_neg (fun h => e h.symm)]; exact hf j hj
theorem Ext.setCell {w w' : World} (h : Ext w w') {p : Addr} (hp : w.heap.size ≤ p.block) (u : Value) : Ext w (w'.setCell p u) := Below.setCell h hp u
end Go.Proofs.YtekkngkphejfcaaDoor
