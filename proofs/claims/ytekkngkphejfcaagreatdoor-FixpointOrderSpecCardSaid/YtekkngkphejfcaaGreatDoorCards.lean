/-
  DERIVED. GIVEN WITH THE SEED: THE CARDS: each row of YtekkngkphejfcaaGreatDoorRows.lean that lists a variable, with what it lists TIED to the program's text (the seventh form; the later family's looks); each row that meets fmt, with fmt's text TOLD by the authors' own Lean function (tested against real Go, not proved from fmt's source: count such statements apart). THE CARD IS WHAT COUNTS. Prove the row's statement (the work); the ties are given (YtekkngkphejfcaaGreatDoorTie.lean); close each card by the builder's one call (the guide's Derived/Test/ToyasCard.lean, 'card_holds'). Laid BY PROGRAM, IN A SANDBOX (cutbox-door.mjs). By AI agents, Wed Nov 11 2026. No macro, syntax, notation, axiom, sorry.
-/
import Derived.Test.YtekkngkphejfcaaGreatDoorRows
import GoSem.ClaimSeven
namespace Go.Proofs.YtekkngkphejfcaaGreatDoor
namespace Rows

/-- THE TIED CARD OF 'gridwrightlaw26.PruneSpec'. -/
def pruneSpecCard : Claim7 := { stood := { row := pruneSpecRow, standIns := [], harness := (true, "9c4addf143ef14c7f45304d688de3b5180aa5af530ffbb99e32598e77f931dc8"), looks := false }, kinds := [], alts := [], laidByText := true, laidKinds := [.data, .data], laidTests := true, laidLooks := .later }
def PruneSpecCardSaid : Prop := Claim7.holds Tryz.pinned (.plain (OpenSpec.ofChange pruneSpecSpec)) pruneSpecCard

/-- THE TIED CARD OF 'gridwrightlaw27.FixpointSpec'. -/
def fixpointSpecCard : Claim7 := { stood := { row := fixpointSpecRow, standIns := [], harness := (true, "9c4addf143ef14c7f45304d688de3b5180aa5af530ffbb99e32598e77f931dc8"), looks := false }, kinds := [], alts := [], laidByText := true, laidKinds := [.data, .data], laidTests := true, laidLooks := .later }
def FixpointSpecCardSaid : Prop := Claim7.holds Tryz.pinned (.plain (OpenSpec.ofChange fixpointSpecSpec)) fixpointSpecCard

/-- THE TIED CARD OF 'gridwrightlaw27.FixpointOrderSpec'. -/
def fixpointOrderSpecCard : Claim7 := { stood := { row := fixpointOrderSpecRow, standIns := [], harness := (true, "9c4addf143ef14c7f45304d688de3b5180aa5af530ffbb99e32598e77f931dc8"), looks := false }, kinds := [], alts := [], laidByText := true, laidKinds := [.data, .data], laidTests := true, laidLooks := .later }
def FixpointOrderSpecCardSaid : Prop := Claim7.holds Tryz.pinned (.plain (OpenSpec.ofChange fixpointOrderSpecSpec)) fixpointOrderSpecCard

/-- THE TIED CARD OF 'gridwrightlaw27.FixpointAnyOrder'. -/
def fixpointAnyOrderCard : Claim7 := { stood := { row := fixpointAnyOrderRow, standIns := [], harness := (true, "9c4addf143ef14c7f45304d688de3b5180aa5af530ffbb99e32598e77f931dc8"), looks := false }, kinds := [], alts := [], laidByText := true, laidKinds := [.data, .data], laidTests := true, laidLooks := .later }
def FixpointAnyOrderCardSaid : Prop := Claim7.holds Tryz.pinned (.plain (OpenSpec.ofChange fixpointAnyOrderSpec)) fixpointAnyOrderCard

/-- THE SECOND FORM's CARD OF 'gridwrightlaw26.PruneSpec'. -/
def pruneSpecUptoCard : Claim7 := { stood := { row := pruneSpecUptoRow, standIns := [], harness := (true, "9c4addf143ef14c7f45304d688de3b5180aa5af530ffbb99e32598e77f931dc8"), looks := false }, kinds := [], alts := [], laidByText := true, laidKinds := [.data, .data], laidTests := true, laidLooks := .later }
def PruneSpecUptoCardSaid : Prop := Claim7.holds Tryz.pinned (.plain (OpenSpec.upto pruneSpecSpec)) pruneSpecUptoCard

/-- THE SECOND FORM's CARD OF 'gridwrightlaw27.FixpointSpec'. -/
def fixpointSpecUptoCard : Claim7 := { stood := { row := fixpointSpecUptoRow, standIns := [], harness := (true, "9c4addf143ef14c7f45304d688de3b5180aa5af530ffbb99e32598e77f931dc8"), looks := false }, kinds := [], alts := [], laidByText := true, laidKinds := [.data, .data], laidTests := true, laidLooks := .later }
def FixpointSpecUptoCardSaid : Prop := Claim7.holds Tryz.pinned (.plain (OpenSpec.upto fixpointSpecSpec)) fixpointSpecUptoCard

/-- THE SECOND FORM's CARD OF 'gridwrightlaw27.FixpointOrderSpec'. -/
def fixpointOrderSpecUptoCard : Claim7 := { stood := { row := fixpointOrderSpecUptoRow, standIns := [], harness := (true, "9c4addf143ef14c7f45304d688de3b5180aa5af530ffbb99e32598e77f931dc8"), looks := false }, kinds := [], alts := [], laidByText := true, laidKinds := [.data, .data], laidTests := true, laidLooks := .later }
def FixpointOrderSpecUptoCardSaid : Prop := Claim7.holds Tryz.pinned (.plain (OpenSpec.upto fixpointOrderSpecSpec)) fixpointOrderSpecUptoCard

/-- THE SECOND FORM's CARD OF 'gridwrightlaw27.FixpointAnyOrder'. -/
def fixpointAnyOrderUptoCard : Claim7 := { stood := { row := fixpointAnyOrderUptoRow, standIns := [], harness := (true, "9c4addf143ef14c7f45304d688de3b5180aa5af530ffbb99e32598e77f931dc8"), looks := false }, kinds := [], alts := [], laidByText := true, laidKinds := [.data, .data], laidTests := true, laidLooks := .later }
def FixpointAnyOrderUptoCardSaid : Prop := Claim7.holds Tryz.pinned (.plain (OpenSpec.upto fixpointAnyOrderSpec)) fixpointAnyOrderUptoCard
end Rows
end Go.Proofs.YtekkngkphejfcaaGreatDoor
