/- What comes in, read as the view's values; what a law's statement asks behind a call that only makes new memory. -/
import Derived.Test.YtekkngkphejfcaaDoorDhint
import Derived.Test.YtekkngkphejfcaaDoorRows
import Derived.WalkKit
import Derived.ProofKit
import Derived.OpenShut
import Derived.Deep.DeepHandedRow
import Derived.Lib.LaidTab
import Derived.Deep.Slices
namespace Go.Proofs.YtekkngkphejfcaaDoor
open Go.ChangeShapes Go.WideShapes Go.ChangeAt Go.RowKit

/-- Cells stand for values of the view. -/
def CellsR (w : World) (cs : List Value) (l : List DV) : Prop := cs.length = l.length ∧ ∀ j, j < l.length → RepV (fun _ => False) w (l.getD j .any) [] (cs.getD j undef)
/-- Whatever reads as data of a type, in m cells, stands for some element. -/
def Rd (P : Program) (t : TypeId) (m : Nat) {α : Type} (c : α → List DV) : Prop := (∀ x, (c x).length = m) ∧ P.cellsOf t = m ∧ ∀ {H : Type} (enc : TypeId × Value → H) (w : World) (fuel : Nat) (cs : List Value) (x : DataW H × List MemPlace), DataW.trod enc P w 0 (fun _ => true) true fuel t cs = some x → (∀ n ∈ x.1.weights P t, n ≤ reachBytes) → ∃ y : α, CellsR w cs (c y)
theorem weights_all {H : Type} {P : Program} {e : TypeId} : ∀ {l : List (DataW H)} {d : DataW H} {n : Nat}, d ∈ l → n ∈ d.weights P e → n ∈ DataW.weightsAll P e l
  | [], _, _, h, _ => by cases h
  | a :: l, d, n, h, hn => by
    unfold DataW.weightsAll
    rcases List.mem_cons.1 h with rfl | h
    · exact List.mem_append_left _ hn
    · exact List.mem_append_right _ (weights_all h hn)
section
variable {P : Program} {t e : TypeId} {m : Nat}
theorem CellsR.one {w : World} {v : Value} {d : DV} (h : RepV (fun _ => False) w d [] v) : CellsR w [v] [d] := ⟨rfl, fun j hj => by
  have : j = 0 := by simpa using hj
  subst this; exact h⟩
theorem CellsR.app {w : World} {cs cs' : List Value} {l l' : List DV} (h : CellsR w cs l) (h' : CellsR w cs' l') : CellsR w (cs ++ cs') (l ++ l') := by
  refine ⟨by simp [h.1, h'.1], fun j hj => ?_⟩
  rcases Nat.lt_or_ge j l.length with hl | hl
  · have := h.2 j hl
    have hc : j < cs.length := by rw [h.1]; exact hl
    simp only [List.getD_eq_getElem?_getD] at this ⊢
    rw [List.getElem?_append_left hl, List.getElem?_append_left hc]; exact this
  · have := h'.2 (j - l.length) (by simp at hj; omega)
    simp only [List.getD_eq_getElem?_getD] at this ⊢
    rw [List.getElem?_append_right hl, List.getElem?_append_right (by rw [h.1]; exact hl), h.1]; exact this
theorem Rd.int {k : IntKind} (ht : P.underlying t = some (.int k)) (hc : P.cellsOf t = 1) : Rd P t 1 (fun n : Int => [.int k n]) := ⟨fun _ => rfl, hc, fun enc w fuel cs x h hw => by
  obtain ⟨n, rfl, _⟩ := DataW.trod_int ht h
  exact ⟨n, .one rfl⟩⟩
theorem Rd.bool (ht : P.underlying t = some .bool) (hc : P.cellsOf t = 1) : Rd P t 1 (fun b : Bool => [.bool b]) := ⟨fun _ => rfl, hc, fun enc w fuel cs x h hw => by
  obtain ⟨b, rfl, _⟩ := DataW.trod_bool ht h
  exact ⟨b, .one rfl⟩⟩
theorem cells_at {w : World} {a : Addr} {n : Nat} {cs : List Value} (h : w.cells? 0 a n = some cs) : cs.length = n ∧ ∀ j, j < n → w.cell? (a.add j) = some (cs.getD j undef) := by
  unfold World.cells? at h
  rw [if_pos (Nat.zero_le _)] at h
  have hl : cs.length = n := by simpa using Lib.mapM_length h
  refine ⟨hl, fun j hj => ?_⟩
  obtain ⟨b, h1, h2⟩ := Lib.mapM_at h j j (by simp [hj])
  rw [h2, List.getD_eq_getElem?_getD, h1]; rfl
theorem addr_plain {w : World} {a : Addr} {v : Value} (h : w.cell? a = some v) : ∃ b o, a = ⟨b, o, none⟩ := by
  obtain ⟨b, o, r⟩ := a
  cases r with
  | none => exact ⟨b, o, rfl⟩
  | some r =>
    unfold World.cell? at h
    split at h
    · simp at h
    · cases h
theorem add_plain (b o x : Nat) : (⟨b, o, none⟩ : Addr).add x = ⟨b, o + x, none⟩ := by
  unfold Addr.add
  split
  · rename_i e; subst e; rfl
  · rfl
/-- A slice of elements that can be read. -/
theorem Rd.row {α : Type} [Inhabited α] {c : α → List DV} (ht : P.underlying t = some (.slice e)) (hb : 0 < P.bytesOf e) (hm : 0 < m) (he : Rd P e m c) {H : Type} (enc : TypeId × Value → H) (w : World) (fuel : Nat) (cs : List Value) (x : DataW H × List MemPlace) (h : DataW.trod enc P w 0 (fun _ => true) true fuel t cs = some x) (hw : ∀ n ∈ x.1.weights P t, n ≤ reachBytes) :
    ∃ (L : List α) (a : Option Addr) (cap : Nat), cs = [.slice a L.length cap] ∧ L.length ≤ cap ∧ L.length ≤ LB ∧ ∀ i j, i < L.length → j < m → ∃ b o u, a = some ⟨b, o, none⟩ ∧ w.cell? ⟨b, o + (i * m + j), none⟩ = some u ∧ RepV (fun _ => False) w ((c (L.getD i default)).getD j .any) [] u := by
  rcases Deep.open_slice ht h with ⟨rfl, _⟩ | ⟨a, len, cap, m', n, D, Pl, rfl, _, hlc, hcap, hm', hx, hel⟩
  · exact ⟨[], none, 0, rfl, Nat.le_refl _, Nat.zero_le _, fun i j hi => absurd hi (Nat.not_lt_zero i)⟩
  · simp only [if_true] at hm'
    subst hm'
    subst hx
    have plain : 0 < len → ∃ b o, a = ⟨b, o, none⟩ := fun h0 => by
      obtain ⟨cs', h1, _⟩ := hel 0 (by omega)
      obtain ⟨g1, g2⟩ := cells_at h1
      have g3 := g2 0 (by rw [he.2.1]; exact hm)
      have e0 : (a.add (0 * P.cellsOf e)).add 0 = a := by simp [Addr.add]
      rw [e0] at g3
      exact addr_plain g3
    have pick : ∀ i, i < len → ∃ y : α, ∀ j, j < m → ∃ b o u, a = ⟨b, o, none⟩ ∧ w.cell? ⟨b, o + (i * m + j), none⟩ = some u ∧ RepV (fun _ => False) w ((c y).getD j .any) [] u := fun i hi => by
      obtain ⟨cs', h1, h2⟩ := hel i (by omega)
      obtain ⟨y, h3, h4⟩ := he.2.2 enc w n cs' _ h2 fun k hk => hw k (by
        simp only [DataW.weights, ht]
        refine List.mem_cons_of_mem _ (List.mem_append_left _ (weights_all (d := D i) ?_ hk))
        exact List.mem_map.2 ⟨i, List.mem_range.2 hi, rfl⟩)
      obtain ⟨g1, g2⟩ := cells_at h1
      obtain ⟨b, o, rfl⟩ := plain (by omega)
      refine ⟨y, fun j hj => ?_⟩
      have g3 := g2 j (by rw [he.2.1]; exact hj)
      refine ⟨b, o, _, rfl, ?_, h4 j (by rw [he.1]; exact hj)⟩
      rw [← g3, he.2.1, add_plain, add_plain, Nat.add_assoc]
    have hL : ∃ L : List α, L.length = len ∧ ∀ i, i < len → ∀ j, j < m → ∃ b o u, a = ⟨b, o, none⟩ ∧ w.cell? ⟨b, o + (i * m + j), none⟩ = some u ∧ RepV (fun _ => False) w ((c (L.getD i default)).getD j .any) [] u := by
      refine ⟨(List.range len).map fun i => if hi : i < len then (pick i hi).choose else default, by simp, fun i hi => ?_⟩
      have : ((List.range len).map fun i => if hi : i < len then (pick i hi).choose else default).getD i default = (pick i hi).choose := by
        simp [List.getD_eq_getElem?_getD, hi]
      rw [this]
      exact (pick i hi).choose_spec
    obtain ⟨L, rfl, hL⟩ := hL
    refine ⟨L, some a, _, rfl, hlc, ?_, fun i j hi hj => ?_⟩
    · have hk := hw ((L.length + (m' - L.length)) * P.bytesOf e) (by
        simp only [DataW.weights, ht, List.length_map, List.length_range]
        exact List.mem_cons_self)
      have h1 := Nat.le_mul_of_pos_right (L.length + (m' - L.length)) hb
      have h2 := Nat.le_trans h1 hk
      unfold reachBytes at h2
      unfold LB
      omega
    · obtain ⟨b, o, u, g1, g2, g3⟩ := hL i hi j hj
      exact ⟨b, o, u, by rw [g1], g2, g3⟩
theorem Rd.rows {α : Type} [Inhabited α] {c : α → List DV} (ht : P.underlying t = some (.slice e)) (hc : P.cellsOf t = 1) (hb : 0 < P.bytesOf e) (hm : 0 < m) (he : Rd P e m c) : Rd P t 1 (fun L : List α => [.sl m L.length (rowE c L)]) := ⟨fun _ => rfl, hc, fun enc w fuel cs x h hw => by
  obtain ⟨L, a, cap, rfl, h1, h2, h3⟩ := Rd.row ht hb hm he enc w fuel cs x h hw
  refine ⟨L, CellsR.one ⟨a, cap, rfl, h1, h2, fun i j hi hj => ?_⟩⟩
  obtain ⟨b, o, u, g1, g2, g3⟩ := h3 i j hi hj
  exact ⟨b, o, u, g1, fun h => h, g2, g3⟩⟩
theorem Rd.ints (ht : P.underlying t = some (.slice e)) (hc : P.cellsOf t = 1) (hb : 0 < P.bytesOf e) (he : P.underlying e = some (.int .i64)) (hce : P.cellsOf e = 1) : Rd P t 1 intsC := ⟨fun _ => rfl, hc, fun enc w fuel cs x h hw => by
  obtain ⟨L, a, cap, rfl, h1, h2, h3⟩ := Rd.row ht hb (Nat.zero_lt_one) (Rd.int he hce) enc w fuel cs x h hw
  refine ⟨L, .one ⟨a, cap, rfl, h1, h2, fun j hj => ?_⟩⟩
  obtain ⟨b, o, u, g1, g2, g3⟩ := h3 j 0 hj Nat.zero_lt_one
  refine ⟨b, o, g1, fun h => h, ?_⟩
  have : u = .int .i64 (L.getD j 0) := g3
  rw [← this, ← g2]; simp⟩
theorem Rd.bools (ht : P.underlying t = some (.slice e)) (hc : P.cellsOf t = 1) (hb : 0 < P.bytesOf e) (he : P.underlying e = some .bool) (hce : P.cellsOf e = 1) : Rd P t 1 boolsC := ⟨fun _ => rfl, hc, fun enc w fuel cs x h hw => by
  obtain ⟨L, a, cap, rfl, h1, h2, h3⟩ := Rd.row ht hb (Nat.zero_lt_one) (Rd.bool he hce) enc w fuel cs x h hw
  refine ⟨L, .one ⟨a, cap, rfl, h1, h2, fun j hj => ?_⟩⟩
  obtain ⟨b, o, u, g1, g2, g3⟩ := h3 j 0 hj Nat.zero_lt_one
  refine ⟨b, o, g1, fun h => h, ?_⟩
  have : u = .bool (L.getD j false) := g3
  rw [← this, ← g2]; simp⟩
/-- The fields of a struct, from a place on. -/
def RdFs (P : Program) : List Field → Nat → Nat → {α : Type} → (α → List DV) → Prop := fun fs o n {α} c => ∀ (H : Type) (enc : TypeId × Value → H) (w : World) (fuel : Nat) (cs : List Value) (xs : List (DataW H × List MemPlace)), cs.length = n → (fs.mapM fun f => DataW.trod enc P w 0 (fun _ => true) true fuel f.type ((cs.drop f.offset).take (P.cellsOf f.type))) = some xs → (∀ k ∈ DataW.weightsEach P (fs.map (·.type)) (xs.map (·.1)), k ≤ reachBytes) → ∃ y : α, CellsR w (cs.drop o) (c y)
theorem RdFs.nil {o n : Nat} (ho : n = o) : RdFs P [] o n (fun _ : Unit => []) := fun _ enc w fuel cs xs hl _ _ => ⟨(), by rw [List.drop_of_length_le (by omega)]; exact ⟨rfl, fun j hj => absurd hj (Nat.not_lt_zero j)⟩⟩
theorem RdFs.cons {α β : Type} {c : α → List DV} {c' : β → List DV} {f : Field} {fs : List Field} {o n : Nat} (ho : f.offset = o) (hf : Rd P f.type m c) (hs : RdFs P fs (o + m) n c') : RdFs P (f :: fs) o n (fun x : α × β => c x.1 ++ c' x.2) := fun _ enc w fuel cs xs hl h hw => by
  rw [List.mapM_cons] at h
  obtain ⟨a, ha, h⟩ := Option.bind_eq_some_iff.1 h
  obtain ⟨ys, hys, e⟩ := Option.bind_eq_some_iff.1 h
  cases e
  obtain ⟨y, h1⟩ := hf.2.2 enc w fuel _ a ha fun k hk => hw k (by simp only [List.map_cons, DataW.weightsEach]; exact List.mem_append_left _ hk)
  obtain ⟨z, h2⟩ := hs _ enc w fuel cs ys hl hys fun k hk => hw k (by simp only [List.map_cons, DataW.weightsEach]; exact List.mem_append_right _ hk)
  refine ⟨(y, z), ?_⟩
  have : cs.drop o = (cs.drop f.offset).take (P.cellsOf f.type) ++ cs.drop (o + m) := by
    rw [ho, hf.2.1, ← List.drop_drop]
    exact (List.take_append_drop m (cs.drop o)).symm
  rw [this]
  exact h1.app h2
theorem Rd.struct {α β : Type} {c : α → List DV} {c' : β → List DV} {fs : Array Field} (ht : P.underlying t = some (.struct fs)) (hc : P.cellsOf t = m) (hs : RdFs P fs.toList 0 m c) (g : α → β) (hg : ∀ x, c x = c' (g x)) (hm : ∀ x, (c' x).length = m) : Rd P t m c' := ⟨hm, hc, fun enc w fuel cs x h hw => by
  cases fuel with
  | zero => simp [DataW.trod] at h
  | succ fuel =>
    unfold DataW.trod at h
    rw [ht] at h
    simp only at h
    split at h
    · rename_i hl
      obtain ⟨xs, hxs, e⟩ := Option.map_eq_some_iff.1 h
      subst e
      obtain ⟨y, hy⟩ := hs _ enc w fuel cs xs (by rw [hl, hc]) hxs fun k hk => hw k (by simp only [DataW.weights, ht]; exact hk)
      exact ⟨g y, by rw [← hg]; exact hy⟩
    · cases h⟩
end
end Go.Proofs.YtekkngkphejfcaaDoor
