/-
  DERIVED. GIVEN WITH THE SEED: THE CARDS: each row of YtodinaconebmdaaGreatDoorRows.lean that lists a variable, with what it lists TIED to the program's text (the seventh form; the later family's looks); each row that meets fmt, with fmt's text TOLD by the authors' own Lean function (tested against real Go, not proved from fmt's source: count such statements apart). THE CARD IS WHAT COUNTS. Prove the row's statement (the work); the ties are given (YtodinaconebmdaaGreatDoorTie.lean); close each card by the builder's one call (the guide's Derived/Test/ToyasCard.lean, 'card_holds'). Laid BY PROGRAM, IN A SANDBOX (cutbox-door.mjs). By AI agents, Wed Nov 11 2026. No macro, syntax, notation, axiom, sorry.
-/
import Derived.Test.YtodinaconebmdaaGreatDoorRows
import GoSem.ClaimSeven
namespace Go.Proofs.YtodinaconebmdaaGreatDoor
namespace Rows

/-- THE TIED CARD OF 'gridwrightlaw29.SearchFindSpec'. -/
def searchFindSpecCard : Claim7 := { stood := { row := searchFindSpecRow, standIns := [], harness := (true, "7efa27a570f32bce54850aa1a7399d489326cea98dde21c7b992c1f7c3d471c6"), looks := true }, kinds := [], alts := [], laidByText := true, laidKinds := [.data, .data], laidTests := true, laidLooks := .later }
def SearchFindSpecCardSaid : Prop := Claim7.holds Tryz.pinned (.plain (OpenSpec.ofChange searchFindSpecSpec)) searchFindSpecCard

/-- THE TIED CARD OF 'gridwrightlaw29.SearchManySpec'. -/
def searchManySpecCard : Claim7 := { stood := { row := searchManySpecRow, standIns := [], harness := (true, "7efa27a570f32bce54850aa1a7399d489326cea98dde21c7b992c1f7c3d471c6"), looks := true }, kinds := [], alts := [], laidByText := true, laidKinds := [.data, .data], laidTests := true, laidLooks := .later }
def SearchManySpecCardSaid : Prop := Claim7.holds Tryz.pinned (.plain (OpenSpec.ofChange searchManySpecSpec)) searchManySpecCard

/-- THE TIED CARD OF 'gridwrightlaw29.SearchComplete'. -/
def searchCompleteCard : Claim7 := { stood := { row := searchCompleteRow, standIns := [], harness := (true, "7efa27a570f32bce54850aa1a7399d489326cea98dde21c7b992c1f7c3d471c6"), looks := true }, kinds := [], alts := [], laidByText := true, laidKinds := [.data, .data], laidTests := true, laidLooks := .later }
def SearchCompleteCardSaid : Prop := Claim7.holds Tryz.pinned (.plain (OpenSpec.ofChange searchCompleteSpec)) searchCompleteCard

/-- THE TIED CARD OF 'gridwrightlaw29.SearchFuel'. -/
def searchFuelCard : Claim7 := { stood := { row := searchFuelRow, standIns := [], harness := (true, "7efa27a570f32bce54850aa1a7399d489326cea98dde21c7b992c1f7c3d471c6"), looks := true }, kinds := [], alts := [], laidByText := true, laidKinds := [.data, .data], laidTests := true, laidLooks := .later }
def SearchFuelCardSaid : Prop := Claim7.holds Tryz.pinned (.plain (OpenSpec.ofChange searchFuelSpec)) searchFuelCard

/-- THE TIED CARD OF 'gridwrightlaw29.SearchSplit'. -/
def searchSplitCard : Claim7 := { stood := { row := searchSplitRow, standIns := [], harness := (true, "7efa27a570f32bce54850aa1a7399d489326cea98dde21c7b992c1f7c3d471c6"), looks := true }, kinds := [], alts := [], laidByText := true, laidKinds := [.data, .data], laidTests := true, laidLooks := .later }
def SearchSplitCardSaid : Prop := Claim7.holds Tryz.pinned (.plain (OpenSpec.ofChange searchSplitSpec)) searchSplitCard

/-- THE SECOND FORM's CARD OF 'gridwrightlaw29.SearchFindSpec'. -/
def searchFindSpecUptoCard : Claim7 := { stood := { row := searchFindSpecUptoRow, standIns := [], harness := (true, "7efa27a570f32bce54850aa1a7399d489326cea98dde21c7b992c1f7c3d471c6"), looks := true }, kinds := [], alts := [], laidByText := true, laidKinds := [.data, .data], laidTests := true, laidLooks := .later }
def SearchFindSpecUptoCardSaid : Prop := Claim7.holds Tryz.pinned (.plain (OpenSpec.upto searchFindSpecSpec)) searchFindSpecUptoCard

/-- THE SECOND FORM's CARD OF 'gridwrightlaw29.SearchManySpec'. -/
def searchManySpecUptoCard : Claim7 := { stood := { row := searchManySpecUptoRow, standIns := [], harness := (true, "7efa27a570f32bce54850aa1a7399d489326cea98dde21c7b992c1f7c3d471c6"), looks := true }, kinds := [], alts := [], laidByText := true, laidKinds := [.data, .data], laidTests := true, laidLooks := .later }
def SearchManySpecUptoCardSaid : Prop := Claim7.holds Tryz.pinned (.plain (OpenSpec.upto searchManySpecSpec)) searchManySpecUptoCard

/-- THE SECOND FORM's CARD OF 'gridwrightlaw29.SearchComplete'. -/
def searchCompleteUptoCard : Claim7 := { stood := { row := searchCompleteUptoRow, standIns := [], harness := (true, "7efa27a570f32bce54850aa1a7399d489326cea98dde21c7b992c1f7c3d471c6"), looks := true }, kinds := [], alts := [], laidByText := true, laidKinds := [.data, .data], laidTests := true, laidLooks := .later }
def SearchCompleteUptoCardSaid : Prop := Claim7.holds Tryz.pinned (.plain (OpenSpec.upto searchCompleteSpec)) searchCompleteUptoCard

/-- THE SECOND FORM's CARD OF 'gridwrightlaw29.SearchFuel'. -/
def searchFuelUptoCard : Claim7 := { stood := { row := searchFuelUptoRow, standIns := [], harness := (true, "7efa27a570f32bce54850aa1a7399d489326cea98dde21c7b992c1f7c3d471c6"), looks := true }, kinds := [], alts := [], laidByText := true, laidKinds := [.data, .data], laidTests := true, laidLooks := .later }
def SearchFuelUptoCardSaid : Prop := Claim7.holds Tryz.pinned (.plain (OpenSpec.upto searchFuelSpec)) searchFuelUptoCard

/-- THE SECOND FORM's CARD OF 'gridwrightlaw29.SearchSplit'. -/
def searchSplitUptoCard : Claim7 := { stood := { row := searchSplitUptoRow, standIns := [], harness := (true, "7efa27a570f32bce54850aa1a7399d489326cea98dde21c7b992c1f7c3d471c6"), looks := true }, kinds := [], alts := [], laidByText := true, laidKinds := [.data, .data], laidTests := true, laidLooks := .later }
def SearchSplitUptoCardSaid : Prop := Claim7.holds Tryz.pinned (.plain (OpenSpec.upto searchSplitSpec)) searchSplitUptoCard
end Rows
end Go.Proofs.YtodinaconebmdaaGreatDoor
