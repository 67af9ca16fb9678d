/-
  DERIVED. GIVEN WITH THE SEED: THE CARDS: each row of YtnkpdcmbppkkpaaGreatDoorRows.lean that lists a variable, with what it lists TIED to the program's text (the seventh form; the later family's looks); each row that meets fmt, with fmt's text TOLD by the authors' own Lean function (tested against real Go, not proved from fmt's source: count such statements apart). THE CARD IS WHAT COUNTS. Prove the row's statement (the work); the ties are given (YtnkpdcmbppkkpaaGreatDoorTie.lean); close each card by the builder's one call (the guide's Derived/Test/ToyasCard.lean, 'card_holds'). Laid BY PROGRAM, IN A SANDBOX (cutbox-door.mjs). By AI agents, Wed Nov 11 2026. No macro, syntax, notation, axiom, sorry.
-/
import Derived.Test.YtnkpdcmbppkkpaaGreatDoorRows
import GoSem.ClaimSeven
namespace Go.Proofs.YtnkpdcmbppkkpaaGreatDoor
namespace Rows

/-- THE TIED CARD OF 'gridwrightlaw28.TreesCheckSpec'. -/
def treesCheckSpecCard : Claim7 := { stood := { row := treesCheckSpecRow, standIns := [], harness := (true, "111a61fba7b50a133bc5e219d36a81daa3da30d8c3261f90a2c65ada7838abd2"), looks := true }, kinds := [], alts := [], laidByText := true, laidKinds := [.data, .data], laidTests := true, laidLooks := .later }
def TreesCheckSpecCardSaid : Prop := Claim7.holds Tryz.pinned (.plain (OpenSpec.ofChange treesCheckSpecSpec)) treesCheckSpecCard

/-- THE TIED CARD OF 'gridwrightlaw28.TreesLeavesSpec'. -/
def treesLeavesSpecCard : Claim7 := { stood := { row := treesLeavesSpecRow, standIns := [], harness := (true, "111a61fba7b50a133bc5e219d36a81daa3da30d8c3261f90a2c65ada7838abd2"), looks := true }, kinds := [], alts := [], laidByText := true, laidKinds := [.data, .data], laidTests := true, laidLooks := .later }
def TreesLeavesSpecCardSaid : Prop := Claim7.holds Tryz.pinned (.plain (OpenSpec.ofChange treesLeavesSpecSpec)) treesLeavesSpecCard

/-- THE TIED CARD OF 'gridwrightlaw29.SearchTree'. -/
def searchTreeCard : Claim7 := { stood := { row := searchTreeRow, standIns := [], harness := (true, "111a61fba7b50a133bc5e219d36a81daa3da30d8c3261f90a2c65ada7838abd2"), looks := true }, kinds := [], alts := [], laidByText := true, laidKinds := [.data, .data], laidTests := true, laidLooks := .later }
def SearchTreeCardSaid : Prop := Claim7.holds Tryz.pinned (.plain (OpenSpec.ofChange searchTreeSpec)) searchTreeCard

/-- THE SECOND FORM's CARD OF 'gridwrightlaw28.TreesCheckSpec'. -/
def treesCheckSpecUptoCard : Claim7 := { stood := { row := treesCheckSpecUptoRow, standIns := [], harness := (true, "111a61fba7b50a133bc5e219d36a81daa3da30d8c3261f90a2c65ada7838abd2"), looks := true }, kinds := [], alts := [], laidByText := true, laidKinds := [.data, .data], laidTests := true, laidLooks := .later }
def TreesCheckSpecUptoCardSaid : Prop := Claim7.holds Tryz.pinned (.plain (OpenSpec.upto treesCheckSpecSpec)) treesCheckSpecUptoCard

/-- THE SECOND FORM's CARD OF 'gridwrightlaw28.TreesLeavesSpec'. -/
def treesLeavesSpecUptoCard : Claim7 := { stood := { row := treesLeavesSpecUptoRow, standIns := [], harness := (true, "111a61fba7b50a133bc5e219d36a81daa3da30d8c3261f90a2c65ada7838abd2"), looks := true }, kinds := [], alts := [], laidByText := true, laidKinds := [.data, .data], laidTests := true, laidLooks := .later }
def TreesLeavesSpecUptoCardSaid : Prop := Claim7.holds Tryz.pinned (.plain (OpenSpec.upto treesLeavesSpecSpec)) treesLeavesSpecUptoCard

/-- THE SECOND FORM's CARD OF 'gridwrightlaw29.SearchTree'. -/
def searchTreeUptoCard : Claim7 := { stood := { row := searchTreeUptoRow, standIns := [], harness := (true, "111a61fba7b50a133bc5e219d36a81daa3da30d8c3261f90a2c65ada7838abd2"), looks := true }, kinds := [], alts := [], laidByText := true, laidKinds := [.data, .data], laidTests := true, laidLooks := .later }
def SearchTreeUptoCardSaid : Prop := Claim7.holds Tryz.pinned (.plain (OpenSpec.upto searchTreeSpec)) searchTreeUptoCard
end Rows
end Go.Proofs.YtnkpdcmbppkkpaaGreatDoor
