/- Problems that come in: how they are read, how long their rows are; the library's table. -/
import Derived.Test.YtekkngkphejfcaaDoorDlaw
import Derived.Test.YtekkngkphejfcaaDoorPprob
import Derived.Test.YtekkngkphejfcaaDoorCards
import Derived.Test.YtekkngkphejfcaaDoorTie
namespace Go.Proofs.YtekkngkphejfcaaDoor
open Go.ChangeShapes Go.WideShapes Go.ChangeAt Go.RowKit

theorem own : ownKnob Tryd.prog.godebug = none := by kernel_rfl
theorem laidOutP : laidOutB Tryd.prog = true := by kernel_rfl
theorem bytes3 : 0 < Tryd.prog.bytesOf 3 := Nat.le_of_ble_eq_true (by kernel_rfl)
theorem rdI : Rd Tryd.prog 3 1 (fun n : Int => [.int .i64 n]) := Rd.int Tryd.underlying3 (by kernel_rfl)
theorem rdInts : Rd Tryd.prog 22 1 intsC := Rd.ints Tryd.underlying22 (by kernel_rfl) bytes3 Tryd.underlying3 (by kernel_rfl)
theorem rdRows : Rd Tryd.prog 23 1 (fun L : List (List Int) => [.sl 1 L.length (rowE intsC L)]) := Rd.rows Tryd.underlying23 (by kernel_rfl) (Nat.le_of_ble_eq_true (by kernel_rfl)) Nat.zero_lt_one rdInts
set_option maxRecDepth 100000 in
theorem rdCons : Rd Tryd.prog 38 9 consC := by
  refine Rd.struct Tryd.underlying38 (by kernel_rfl)
    (RdFs.cons rfl rdI <| RdFs.cons rfl rdInts <| RdFs.cons rfl rdI <| RdFs.cons rfl rdI <| RdFs.cons rfl rdI <| RdFs.cons rfl rdI <| RdFs.cons rfl rdInts <| RdFs.cons rfl rdI <| RdFs.cons rfl rdI <| RdFs.nil rfl)
    (fun x : Int × List Int × Int × Int × Int × Int × List Int × Int × Int × Unit => (⟨x.1, x.2.1, x.2.2.1, x.2.2.2.1, x.2.2.2.2.1, x.2.2.2.2.2.1, x.2.2.2.2.2.2.1, x.2.2.2.2.2.2.2.1, x.2.2.2.2.2.2.2.2.1⟩ : ConsD)) ?_ (fun _ => rfl)
  intro x; rfl
theorem rdConses : Rd Tryd.prog 24 1 (fun L : List ConsD => [.sl 9 L.length (rowE consC L)]) := Rd.rows Tryd.underlying24 (by kernel_rfl) (Nat.le_of_ble_eq_true (by kernel_rfl)) (by decide) rdCons
set_option maxRecDepth 100000 in
theorem rdProb : Rd Tryd.prog 26 5 probC := by
  refine Rd.struct Tryd.underlying26 (by kernel_rfl)
    (RdFs.cons rfl rdI <| RdFs.cons rfl rdI <| RdFs.cons rfl rdInts <| RdFs.cons rfl rdRows <| RdFs.cons rfl rdConses <| RdFs.nil rfl)
    (fun x : Int × Int × List Int × List (List Int) × List ConsD × Unit => (⟨x.1, x.2.1, x.2.2.1, x.2.2.2.1, x.2.2.2.2.1⟩ : ProbD)) ?_ (fun _ => rfl)
  intro x; rfl
theorem rvProb : RdV Tryd.prog 26 (fun q : ProbD => .agg 5 (L1 (probC q))) := RdV.agg Tryd.underlying26 rdProb
theorem rvInt : RdV Tryd.prog 3 (fun n : Int => .int .i64 n) := RdV.int Tryd.underlying3
theorem rvInts : RdV Tryd.prog 22 (fun l : List Int => .ints l) := RdV.one Tryd.underlying22 rdInts
theorem Fit.of {M : Nat → Prop} {w : World} {ρ : List Place} {q : ProbD} {v : Value} (h : RepV M w (.agg 5 (L1 (probC q))) ρ v) : Fit q := by
  obtain ⟨cs, _, _, hc⟩ := h
  have row : ∀ {α : Type} [Inhabited α] {m : Nat} {c : α → List DV} {L : List α} {u : Value}, 0 < m → RepV M w (.sl m L.length (rowE c L)) ρ u → ∀ x ∈ L, ∀ j, j < m → ∃ u, RepV M w ((c x).getD j .any) [] u := by
    intro α _ m c L u hm ⟨a, cap, _, _, _, hh⟩ x hx j hj
    obtain ⟨i, hi, rfl⟩ := List.getElem_of_mem hx
    obtain ⟨b, o, u, _, _, _, hr⟩ := hh i j hi hj
    refine ⟨u, ?_⟩
    have e : L.getD i default = L[i] := by simp [hi]
    have hr : RepV M w ((c (L.getD i default)).getD j .any) [] u := hr
    rw [e] at hr; exact hr
  refine ⟨?_, fun r hr => ?_, fun c hcm => ?_, fun c hcm => ?_⟩
  · obtain ⟨u, _, h2⟩ := hc 2 (by decide)
    exact ints_le h2
  · obtain ⟨u, _, h3⟩ := hc 3 (by decide)
    obtain ⟨u, h⟩ := row (c := intsC) (L := q.nbrs) Nat.zero_lt_one h3 r hr 0 Nat.zero_lt_one
    exact ints_le h
  · obtain ⟨u, _, h4⟩ := hc 4 (by decide)
    obtain ⟨u, h⟩ := row (c := consC) (L := q.cons) (by decide) h4 c hcm 1 (by decide)
    exact ints_le h
  · obtain ⟨u, _, h4⟩ := hc 4 (by decide)
    obtain ⟨u, h⟩ := row (c := consC) (L := q.cons) (by decide) h4 c hcm 6 (by decide)
    exact ints_le h
theorem gTab : Tryd.prog.globalNamed "math/bits.deBruijn64tab" = some 1 := by kernel_rfl
theorem gTabType : (Tryd.prog.globals[1]?).map (·.type) = some 122 := by kernel_rfl
/-- What a law's row lists: the two tables. -/
abbrev laidTabs {H : Type} : List (String × DataW H) := [("math/bits.deBruijn32tab", Rows.laid_math_bits_deBruijn32tab), ("math/bits.deBruijn64tab", Rows.laid_math_bits_deBruijn64tab)]
theorem table {W : World} (h : laidMetH Tryd.prog laidTabs W) : Lib.TabIs Tryd.prog W "math/bits.deBruijn64tab" .u8 (Lib.deBruijn64tab.map Int.ofNat) :=
  Lib.tabIs_of_head (rest := []) gTab gTabType Tryd.underlying122 Tryd.underlying5 (by kernel_rfl) (by kernel_rfl) (laidMet.tail (show laidMet Tryd.prog laidTabs W from h))
theorem table_gi {W : World} (h : laidMetH Tryd.prog laidTabs W) : GG.gi W := by
  have T := table h
  have c : ∀ j, j < 64 → W.cell? ⟨1, j, none⟩ = some (.int .u8 ((Lib.deBruijn64tab.map Int.ofNat).getD j 0)) := fun j hj => T.cell gTab j (by rw [List.length_map]; exact hj)
  refine ⟨fun j hj => ?_, ?_⟩
  · have hj : j < 64 := hj
    rw [c j hj]
    have : (Lib.deBruijn64tab.map Int.ofNat).getD j 0 = ((Lib.deBruijn64tab.getD j 0 : Nat) : Int) := by
      have hl : j < Lib.deBruijn64tab.length := hj
      simp [List.getD_eq_getElem?_getD, hl]
    rw [this]
  · have := World.block_lt_of_cell? W _ (c 0 (by decide))
    exact this
/-- A world for the witness: the settled one, the tables as their initialisers lay them. -/
def layTab (l : List Nat) (o : Obj) : Obj := match o with
  | .cells _ t frozen => .cells (l.map fun n => Value.int .u8 (Int.ofNat n)).toArray t frozen
  | o => o
noncomputable def laidWorld (os : Os) : World :=
  { World.holding Tryd.prog os ⟨#[], #[], []⟩ with heap := ((World.holding Tryd.prog os ⟨#[], #[], []⟩).heap.modify 0 (layTab Lib.deBruijn32tab)).modify 1 (layTab Lib.deBruijn64tab) }
/-- The empty problem. -/
def prob0 : Value := .agg #[.int .i64 0, .int .i64 0, .slice none 0 0, .slice none 0 0, .slice none 0 0]
end Go.Proofs.YtekkngkphejfcaaDoor
