/- The program's own variables, as the view knows them. -/
import Derived.Test.YtekkngkphejfcaaDoorDk
import Derived.Test.YtekkngkphejfcaaDoorProg
import Derived.Shelf.Spec.TrailingZeros
namespace Go.Proofs.YtekkngkphejfcaaDoor
open Go.RowKit

/-- The library's table lies. -/
def Tab (w : World) : Prop := TabAt 1 Lib.deBruijn64tab w
theorem Tab.ext {w w' : World} (h : Tab w) (hE : Ext w w') : Tab w' := fun j hj => hE.cell (h j hj)
def GG : Glo where
  ng := 2
  gi := fun w => Tab w ∧ 2 ≤ w.heap.size
  st := fun w w' h hu => ⟨fun j hj => hu.cell (by show ¬ (2 ≤ 1); omega) (h.1 j hj), Nat.le_trans h.2 hu.size⟩
  lo := fun w h => h.2
end Go.Proofs.YtekkngkphejfcaaDoor
