/-
  DERIVED. GIVEN WITH THE SEED: THE CARDS: each row of YtekkngkphejfcaaDoorRows.lean that lists a variable, with what it lists TIED to the program's text (the seventh form; the later family's looks); each row that meets fmt, with fmt's text TOLD by the authors' own Lean function (tested against real Go, not proved from fmt's source: count such statements apart). THE CARD IS WHAT COUNTS. Prove the row's statement (the work); the ties are given (YtekkngkphejfcaaDoorTie.lean); close each card by the builder's one call (the guide's Derived/Test/ToyasCard.lean, 'card_holds'). Laid BY PROGRAM, IN A SANDBOX (cutbox-door.mjs). By AI agents, Wed Nov 11 2026. No macro, syntax, notation, axiom, sorry.
-/
import Derived.Test.YtekkngkphejfcaaDoorRows
import GoSem.ClaimSeven
namespace Go.Proofs.YtekkngkphejfcaaDoor
namespace Rows

/-- THE TIED CARD OF 'gridwrightlaw26.PruneLevelSpec'. -/
def pruneLevelSpecCard : Claim7 := { stood := { row := pruneLevelSpecRow, standIns := [], harness := (true, "6b31a43f8467122d9918913a7303489c10b4b2f2e44bfcfbb18da878f5a48178"), looks := false }, kinds := [], alts := [], laidByText := true, laidKinds := [.data, .data], laidTests := true, laidLooks := .later }
def PruneLevelSpecCardSaid : Prop := Claim7.holds Tryd.pinned (.plain (OpenSpec.ofChange pruneLevelSpecSpec)) pruneLevelSpecCard

/-- THE TIED CARD OF 'gridwrightlaw26.PruneLocal'. -/
def pruneLocalCard : Claim7 := { stood := { row := pruneLocalRow, standIns := [], harness := (true, "6b31a43f8467122d9918913a7303489c10b4b2f2e44bfcfbb18da878f5a48178"), looks := false }, kinds := [], alts := [], laidByText := true, laidKinds := [.data, .data], laidTests := true, laidLooks := .later }
def PruneLocalCardSaid : Prop := Claim7.holds Tryd.pinned (.plain (OpenSpec.ofChange pruneLocalSpec)) pruneLocalCard

/-- THE TIED CARD OF 'gridwrightlaw26.PruneRemoved'. -/
def pruneRemovedCard : Claim7 := { stood := { row := pruneRemovedRow, standIns := [], harness := (true, "6b31a43f8467122d9918913a7303489c10b4b2f2e44bfcfbb18da878f5a48178"), looks := false }, kinds := [], alts := [], laidByText := true, laidKinds := [.data, .data], laidTests := true, laidLooks := .later }
def PruneRemovedCardSaid : Prop := Claim7.holds Tryd.pinned (.plain (OpenSpec.ofChange pruneRemovedSpec)) pruneRemovedCard

/-- THE TIED CARD OF 'gridwrightlaw26.PruneMonotone'. -/
def pruneMonotoneCard : Claim7 := { stood := { row := pruneMonotoneRow, standIns := [], harness := (true, "6b31a43f8467122d9918913a7303489c10b4b2f2e44bfcfbb18da878f5a48178"), looks := false }, kinds := [], alts := [], laidByText := true, laidKinds := [.data, .data], laidTests := true, laidLooks := .later }
def PruneMonotoneCardSaid : Prop := Claim7.holds Tryd.pinned (.plain (OpenSpec.ofChange pruneMonotoneSpec)) pruneMonotoneCard

/-- THE SECOND FORM's CARD OF 'gridwrightlaw26.PruneLevelSpec'. -/
def pruneLevelSpecUptoCard : Claim7 := { stood := { row := pruneLevelSpecUptoRow, standIns := [], harness := (true, "6b31a43f8467122d9918913a7303489c10b4b2f2e44bfcfbb18da878f5a48178"), looks := false }, kinds := [], alts := [], laidByText := true, laidKinds := [.data, .data], laidTests := true, laidLooks := .later }
def PruneLevelSpecUptoCardSaid : Prop := Claim7.holds Tryd.pinned (.plain (OpenSpec.upto pruneLevelSpecSpec)) pruneLevelSpecUptoCard

/-- THE SECOND FORM's CARD OF 'gridwrightlaw26.PruneLocal'. -/
def pruneLocalUptoCard : Claim7 := { stood := { row := pruneLocalUptoRow, standIns := [], harness := (true, "6b31a43f8467122d9918913a7303489c10b4b2f2e44bfcfbb18da878f5a48178"), looks := false }, kinds := [], alts := [], laidByText := true, laidKinds := [.data, .data], laidTests := true, laidLooks := .later }
def PruneLocalUptoCardSaid : Prop := Claim7.holds Tryd.pinned (.plain (OpenSpec.upto pruneLocalSpec)) pruneLocalUptoCard

/-- THE SECOND FORM's CARD OF 'gridwrightlaw26.PruneRemoved'. -/
def pruneRemovedUptoCard : Claim7 := { stood := { row := pruneRemovedUptoRow, standIns := [], harness := (true, "6b31a43f8467122d9918913a7303489c10b4b2f2e44bfcfbb18da878f5a48178"), looks := false }, kinds := [], alts := [], laidByText := true, laidKinds := [.data, .data], laidTests := true, laidLooks := .later }
def PruneRemovedUptoCardSaid : Prop := Claim7.holds Tryd.pinned (.plain (OpenSpec.upto pruneRemovedSpec)) pruneRemovedUptoCard

/-- THE SECOND FORM's CARD OF 'gridwrightlaw26.PruneMonotone'. -/
def pruneMonotoneUptoCard : Claim7 := { stood := { row := pruneMonotoneUptoRow, standIns := [], harness := (true, "6b31a43f8467122d9918913a7303489c10b4b2f2e44bfcfbb18da878f5a48178"), looks := false }, kinds := [], alts := [], laidByText := true, laidKinds := [.data, .data], laidTests := true, laidLooks := .later }
def PruneMonotoneUptoCardSaid : Prop := Claim7.holds Tryd.pinned (.plain (OpenSpec.upto pruneMonotoneSpec)) pruneMonotoneUptoCard
end Rows
end Go.Proofs.YtekkngkphejfcaaDoor
