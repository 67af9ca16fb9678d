/-
  DERIVED. GIVEN WITH THE SEED: THE CARDS: each row of YtkjbblkieglmlaaGreatDoorRows.lean that lists a variable, with what it lists TIED to the program's text (the seventh form; the later family's looks); each row that meets fmt, with fmt's text TOLD by the authors' own Lean function (tested against real Go, not proved from fmt's source: count such statements apart). THE CARD IS WHAT COUNTS. Prove the row's statement (the work); the ties are given (YtkjbblkieglmlaaGreatDoorTie.lean); close each card by the builder's one call (the guide's Derived/Test/ToyasCard.lean, 'card_holds'). Laid BY PROGRAM, IN A SANDBOX (cutbox-door.mjs). By AI agents, Wed Nov 11 2026. No macro, syntax, notation, axiom, sorry.
-/
import Derived.Test.YtkjbblkieglmlaaGreatDoorRows
import GoSem.ClaimSeven
namespace Go.Proofs.YtkjbblkieglmlaaGreatDoor
namespace Rows

/-- THE TIED CARD OF 'gridwrightlaw28.TreesCheckSpec'. -/
def treesCheckSpecCard : Claim7 := { stood := { row := treesCheckSpecRow, standIns := [], harness := (true, "56e3fbb77e246dd9b03569a993bdb2666192056a4196c739d750aeb662784584"), looks := true }, kinds := [], alts := [], laidByText := true, laidKinds := [.data, .data], laidTests := true, laidLooks := .later }
def TreesCheckSpecCardSaid : Prop := Claim7.holds Tryz.pinned (.plain (OpenSpec.ofChange treesCheckSpecSpec)) treesCheckSpecCard

/-- THE TIED CARD OF 'gridwrightlaw28.TreesLeavesSpec'. -/
def treesLeavesSpecCard : Claim7 := { stood := { row := treesLeavesSpecRow, standIns := [], harness := (true, "56e3fbb77e246dd9b03569a993bdb2666192056a4196c739d750aeb662784584"), looks := true }, kinds := [], alts := [], laidByText := true, laidKinds := [.data, .data], laidTests := true, laidLooks := .later }
def TreesLeavesSpecCardSaid : Prop := Claim7.holds Tryz.pinned (.plain (OpenSpec.ofChange treesLeavesSpecSpec)) treesLeavesSpecCard

/-- THE TIED CARD OF 'gridwrightlaw28.TreesRefute'. -/
def treesRefuteCard : Claim7 := { stood := { row := treesRefuteRow, standIns := [], harness := (true, "56e3fbb77e246dd9b03569a993bdb2666192056a4196c739d750aeb662784584"), looks := true }, kinds := [], alts := [], laidByText := true, laidKinds := [.data, .data], laidTests := true, laidLooks := .later }
def TreesRefuteCardSaid : Prop := Claim7.holds Tryz.pinned (.plain (OpenSpec.ofChange treesRefuteSpec)) treesRefuteCard

/-- THE TIED CARD OF 'gridwrightlaw28.TreesLeaf'. -/
def treesLeafCard : Claim7 := { stood := { row := treesLeafRow, standIns := [], harness := (true, "56e3fbb77e246dd9b03569a993bdb2666192056a4196c739d750aeb662784584"), looks := true }, kinds := [], alts := [], laidByText := true, laidKinds := [.data, .data], laidTests := true, laidLooks := .later }
def TreesLeafCardSaid : Prop := Claim7.holds Tryz.pinned (.plain (OpenSpec.ofChange treesLeafSpec)) treesLeafCard

/-- THE TIED CARD OF 'gridwrightlaw28.TreesWhole'. -/
def treesWholeCard : Claim7 := { stood := { row := treesWholeRow, standIns := [], harness := (true, "56e3fbb77e246dd9b03569a993bdb2666192056a4196c739d750aeb662784584"), looks := true }, kinds := [], alts := [], laidByText := true, laidKinds := [.data, .data], laidTests := true, laidLooks := .later }
def TreesWholeCardSaid : Prop := Claim7.holds Tryz.pinned (.plain (OpenSpec.ofChange treesWholeSpec)) treesWholeCard

/-- THE TIED CARD OF 'gridwrightlaw28.TreesNext'. -/
def treesNextCard : Claim7 := { stood := { row := treesNextRow, standIns := [], harness := (true, "56e3fbb77e246dd9b03569a993bdb2666192056a4196c739d750aeb662784584"), looks := true }, kinds := [], alts := [], laidByText := true, laidKinds := [.data, .data], laidTests := true, laidLooks := .later }
def TreesNextCardSaid : Prop := Claim7.holds Tryz.pinned (.plain (OpenSpec.ofChange treesNextSpec)) treesNextCard

/-- THE TIED CARD OF 'gridwrightlaw28.TreesDepth'. -/
def treesDepthCard : Claim7 := { stood := { row := treesDepthRow, standIns := [], harness := (true, "56e3fbb77e246dd9b03569a993bdb2666192056a4196c739d750aeb662784584"), looks := true }, kinds := [], alts := [], laidByText := true, laidKinds := [.data, .data], laidTests := true, laidLooks := .later }
def TreesDepthCardSaid : Prop := Claim7.holds Tryz.pinned (.plain (OpenSpec.ofChange treesDepthSpec)) treesDepthCard

/-- THE SECOND FORM's CARD OF 'gridwrightlaw28.TreesCheckSpec'. -/
def treesCheckSpecUptoCard : Claim7 := { stood := { row := treesCheckSpecUptoRow, standIns := [], harness := (true, "56e3fbb77e246dd9b03569a993bdb2666192056a4196c739d750aeb662784584"), looks := true }, kinds := [], alts := [], laidByText := true, laidKinds := [.data, .data], laidTests := true, laidLooks := .later }
def TreesCheckSpecUptoCardSaid : Prop := Claim7.holds Tryz.pinned (.plain (OpenSpec.upto treesCheckSpecSpec)) treesCheckSpecUptoCard

/-- THE SECOND FORM's CARD OF 'gridwrightlaw28.TreesLeavesSpec'. -/
def treesLeavesSpecUptoCard : Claim7 := { stood := { row := treesLeavesSpecUptoRow, standIns := [], harness := (true, "56e3fbb77e246dd9b03569a993bdb2666192056a4196c739d750aeb662784584"), looks := true }, kinds := [], alts := [], laidByText := true, laidKinds := [.data, .data], laidTests := true, laidLooks := .later }
def TreesLeavesSpecUptoCardSaid : Prop := Claim7.holds Tryz.pinned (.plain (OpenSpec.upto treesLeavesSpecSpec)) treesLeavesSpecUptoCard

/-- THE SECOND FORM's CARD OF 'gridwrightlaw28.TreesRefute'. -/
def treesRefuteUptoCard : Claim7 := { stood := { row := treesRefuteUptoRow, standIns := [], harness := (true, "56e3fbb77e246dd9b03569a993bdb2666192056a4196c739d750aeb662784584"), looks := true }, kinds := [], alts := [], laidByText := true, laidKinds := [.data, .data], laidTests := true, laidLooks := .later }
def TreesRefuteUptoCardSaid : Prop := Claim7.holds Tryz.pinned (.plain (OpenSpec.upto treesRefuteSpec)) treesRefuteUptoCard

/-- THE SECOND FORM's CARD OF 'gridwrightlaw28.TreesLeaf'. -/
def treesLeafUptoCard : Claim7 := { stood := { row := treesLeafUptoRow, standIns := [], harness := (true, "56e3fbb77e246dd9b03569a993bdb2666192056a4196c739d750aeb662784584"), looks := true }, kinds := [], alts := [], laidByText := true, laidKinds := [.data, .data], laidTests := true, laidLooks := .later }
def TreesLeafUptoCardSaid : Prop := Claim7.holds Tryz.pinned (.plain (OpenSpec.upto treesLeafSpec)) treesLeafUptoCard

/-- THE SECOND FORM's CARD OF 'gridwrightlaw28.TreesWhole'. -/
def treesWholeUptoCard : Claim7 := { stood := { row := treesWholeUptoRow, standIns := [], harness := (true, "56e3fbb77e246dd9b03569a993bdb2666192056a4196c739d750aeb662784584"), looks := true }, kinds := [], alts := [], laidByText := true, laidKinds := [.data, .data], laidTests := true, laidLooks := .later }
def TreesWholeUptoCardSaid : Prop := Claim7.holds Tryz.pinned (.plain (OpenSpec.upto treesWholeSpec)) treesWholeUptoCard

/-- THE SECOND FORM's CARD OF 'gridwrightlaw28.TreesNext'. -/
def treesNextUptoCard : Claim7 := { stood := { row := treesNextUptoRow, standIns := [], harness := (true, "56e3fbb77e246dd9b03569a993bdb2666192056a4196c739d750aeb662784584"), looks := true }, kinds := [], alts := [], laidByText := true, laidKinds := [.data, .data], laidTests := true, laidLooks := .later }
def TreesNextUptoCardSaid : Prop := Claim7.holds Tryz.pinned (.plain (OpenSpec.upto treesNextSpec)) treesNextUptoCard

/-- THE SECOND FORM's CARD OF 'gridwrightlaw28.TreesDepth'. -/
def treesDepthUptoCard : Claim7 := { stood := { row := treesDepthUptoRow, standIns := [], harness := (true, "56e3fbb77e246dd9b03569a993bdb2666192056a4196c739d750aeb662784584"), looks := true }, kinds := [], alts := [], laidByText := true, laidKinds := [.data, .data], laidTests := true, laidLooks := .later }
def TreesDepthUptoCardSaid : Prop := Claim7.holds Tryz.pinned (.plain (OpenSpec.upto treesDepthSpec)) treesDepthUptoCard
end Rows
end Go.Proofs.YtkjbblkieglmlaaGreatDoor
