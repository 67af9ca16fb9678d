/-
  DERIVED. GIVEN WITH THE SEED: THE CARDS: each row of YtgkhhfnhacibcaaGreatDoorRows.lean that lists a variable, with what it lists TIED to the program's text (the seventh form; the later family's looks); each row that meets fmt, with fmt's text TOLD by the authors' own Lean function (tested against real Go, not proved from fmt's source: count such statements apart). THE CARD IS WHAT COUNTS. Prove the row's statement (the work); the ties are given (YtgkhhfnhacibcaaGreatDoorTie.lean); close each card by the builder's one call (the guide's Derived/Test/ToyasCard.lean, 'card_holds'). Laid BY PROGRAM, IN A SANDBOX (cutbox-door.mjs). By AI agents, Wed Nov 11 2026. No macro, syntax, notation, axiom, sorry.
-/
import Derived.Test.YtgkhhfnhacibcaaGreatDoorRows
import GoSem.ClaimSeven
namespace Go.Proofs.YtgkhhfnhacibcaaGreatDoor
namespace Rows

/-- THE TIED CARD OF 'gridwrightlaw27.FixpointSteps'. -/
def fixpointStepsCard : Claim7 := { stood := { row := fixpointStepsRow, standIns := [], harness := (true, "b26c7927ba118d4058dc9b54dbb9be9bea6cb7c4c50b0bed87722f3b06b3a44a"), looks := false }, kinds := [], alts := [], laidByText := true, laidKinds := [.data, .data], laidTests := true, laidLooks := .later }
def FixpointStepsCardSaid : Prop := Claim7.holds Tryz.pinned (.plain (OpenSpec.ofChange fixpointStepsSpec)) fixpointStepsCard

/-- THE TIED CARD OF 'gridwrightlaw27.FixpointMonotone'. -/
def fixpointMonotoneCard : Claim7 := { stood := { row := fixpointMonotoneRow, standIns := [], harness := (true, "b26c7927ba118d4058dc9b54dbb9be9bea6cb7c4c50b0bed87722f3b06b3a44a"), looks := false }, kinds := [], alts := [], laidByText := true, laidKinds := [.data, .data], laidTests := true, laidLooks := .later }
def FixpointMonotoneCardSaid : Prop := Claim7.holds Tryz.pinned (.plain (OpenSpec.ofChange fixpointMonotoneSpec)) fixpointMonotoneCard

/-- THE TIED CARD OF 'gridwrightlaw27.FixpointRemoved'. -/
def fixpointRemovedCard : Claim7 := { stood := { row := fixpointRemovedRow, standIns := [], harness := (true, "b26c7927ba118d4058dc9b54dbb9be9bea6cb7c4c50b0bed87722f3b06b3a44a"), looks := false }, kinds := [], alts := [], laidByText := true, laidKinds := [.data, .data], laidTests := true, laidLooks := .later }
def FixpointRemovedCardSaid : Prop := Claim7.holds Tryz.pinned (.plain (OpenSpec.ofChange fixpointRemovedSpec)) fixpointRemovedCard

/-- THE TIED CARD OF 'gridwrightlaw26.PruneSound'. -/
def pruneSoundCard : Claim7 := { stood := { row := pruneSoundRow, standIns := [], harness := (true, "b26c7927ba118d4058dc9b54dbb9be9bea6cb7c4c50b0bed87722f3b06b3a44a"), looks := false }, kinds := [], alts := [], laidByText := true, laidKinds := [.data, .data], laidTests := true, laidLooks := .later }
def PruneSoundCardSaid : Prop := Claim7.holds Tryz.pinned (.plain (OpenSpec.ofChange pruneSoundSpec)) pruneSoundCard

/-- THE TIED CARD OF 'gridwrightlaw26.PruneComplete'. -/
def pruneCompleteCard : Claim7 := { stood := { row := pruneCompleteRow, standIns := [], harness := (true, "b26c7927ba118d4058dc9b54dbb9be9bea6cb7c4c50b0bed87722f3b06b3a44a"), looks := false }, kinds := [], alts := [], laidByText := true, laidKinds := [.data, .data], laidTests := true, laidLooks := .later }
def PruneCompleteCardSaid : Prop := Claim7.holds Tryz.pinned (.plain (OpenSpec.ofChange pruneCompleteSpec)) pruneCompleteCard

/-- THE TIED CARD OF 'gridwrightlaw26.PruneExact'. -/
def pruneExactCard : Claim7 := { stood := { row := pruneExactRow, standIns := [], harness := (true, "b26c7927ba118d4058dc9b54dbb9be9bea6cb7c4c50b0bed87722f3b06b3a44a"), looks := false }, kinds := [], alts := [], laidByText := true, laidKinds := [.data, .data], laidTests := true, laidLooks := .later }
def PruneExactCardSaid : Prop := Claim7.holds Tryz.pinned (.plain (OpenSpec.ofChange pruneExactSpec)) pruneExactCard

/-- THE TIED CARD OF 'gridwrightlaw27.FixpointSound'. -/
def fixpointSoundCard : Claim7 := { stood := { row := fixpointSoundRow, standIns := [], harness := (true, "b26c7927ba118d4058dc9b54dbb9be9bea6cb7c4c50b0bed87722f3b06b3a44a"), looks := false }, kinds := [], alts := [], laidByText := true, laidKinds := [.data, .data], laidTests := true, laidLooks := .later }
def FixpointSoundCardSaid : Prop := Claim7.holds Tryz.pinned (.plain (OpenSpec.ofChange fixpointSoundSpec)) fixpointSoundCard

/-- THE SECOND FORM's CARD OF 'gridwrightlaw27.FixpointSteps'. -/
def fixpointStepsUptoCard : Claim7 := { stood := { row := fixpointStepsUptoRow, standIns := [], harness := (true, "b26c7927ba118d4058dc9b54dbb9be9bea6cb7c4c50b0bed87722f3b06b3a44a"), looks := false }, kinds := [], alts := [], laidByText := true, laidKinds := [.data, .data], laidTests := true, laidLooks := .later }
def FixpointStepsUptoCardSaid : Prop := Claim7.holds Tryz.pinned (.plain (OpenSpec.upto fixpointStepsSpec)) fixpointStepsUptoCard

/-- THE SECOND FORM's CARD OF 'gridwrightlaw27.FixpointMonotone'. -/
def fixpointMonotoneUptoCard : Claim7 := { stood := { row := fixpointMonotoneUptoRow, standIns := [], harness := (true, "b26c7927ba118d4058dc9b54dbb9be9bea6cb7c4c50b0bed87722f3b06b3a44a"), looks := false }, kinds := [], alts := [], laidByText := true, laidKinds := [.data, .data], laidTests := true, laidLooks := .later }
def FixpointMonotoneUptoCardSaid : Prop := Claim7.holds Tryz.pinned (.plain (OpenSpec.upto fixpointMonotoneSpec)) fixpointMonotoneUptoCard

/-- THE SECOND FORM's CARD OF 'gridwrightlaw27.FixpointRemoved'. -/
def fixpointRemovedUptoCard : Claim7 := { stood := { row := fixpointRemovedUptoRow, standIns := [], harness := (true, "b26c7927ba118d4058dc9b54dbb9be9bea6cb7c4c50b0bed87722f3b06b3a44a"), looks := false }, kinds := [], alts := [], laidByText := true, laidKinds := [.data, .data], laidTests := true, laidLooks := .later }
def FixpointRemovedUptoCardSaid : Prop := Claim7.holds Tryz.pinned (.plain (OpenSpec.upto fixpointRemovedSpec)) fixpointRemovedUptoCard

/-- THE SECOND FORM's CARD OF 'gridwrightlaw26.PruneSound'. -/
def pruneSoundUptoCard : Claim7 := { stood := { row := pruneSoundUptoRow, standIns := [], harness := (true, "b26c7927ba118d4058dc9b54dbb9be9bea6cb7c4c50b0bed87722f3b06b3a44a"), looks := false }, kinds := [], alts := [], laidByText := true, laidKinds := [.data, .data], laidTests := true, laidLooks := .later }
def PruneSoundUptoCardSaid : Prop := Claim7.holds Tryz.pinned (.plain (OpenSpec.upto pruneSoundSpec)) pruneSoundUptoCard

/-- THE SECOND FORM's CARD OF 'gridwrightlaw26.PruneComplete'. -/
def pruneCompleteUptoCard : Claim7 := { stood := { row := pruneCompleteUptoRow, standIns := [], harness := (true, "b26c7927ba118d4058dc9b54dbb9be9bea6cb7c4c50b0bed87722f3b06b3a44a"), looks := false }, kinds := [], alts := [], laidByText := true, laidKinds := [.data, .data], laidTests := true, laidLooks := .later }
def PruneCompleteUptoCardSaid : Prop := Claim7.holds Tryz.pinned (.plain (OpenSpec.upto pruneCompleteSpec)) pruneCompleteUptoCard

/-- THE SECOND FORM's CARD OF 'gridwrightlaw26.PruneExact'. -/
def pruneExactUptoCard : Claim7 := { stood := { row := pruneExactUptoRow, standIns := [], harness := (true, "b26c7927ba118d4058dc9b54dbb9be9bea6cb7c4c50b0bed87722f3b06b3a44a"), looks := false }, kinds := [], alts := [], laidByText := true, laidKinds := [.data, .data], laidTests := true, laidLooks := .later }
def PruneExactUptoCardSaid : Prop := Claim7.holds Tryz.pinned (.plain (OpenSpec.upto pruneExactSpec)) pruneExactUptoCard

/-- THE SECOND FORM's CARD OF 'gridwrightlaw27.FixpointSound'. -/
def fixpointSoundUptoCard : Claim7 := { stood := { row := fixpointSoundUptoRow, standIns := [], harness := (true, "b26c7927ba118d4058dc9b54dbb9be9bea6cb7c4c50b0bed87722f3b06b3a44a"), looks := false }, kinds := [], alts := [], laidByText := true, laidKinds := [.data, .data], laidTests := true, laidLooks := .later }
def FixpointSoundUptoCardSaid : Prop := Claim7.holds Tryz.pinned (.plain (OpenSpec.upto fixpointSoundSpec)) fixpointSoundUptoCard
end Rows
end Go.Proofs.YtgkhhfnhacibcaaGreatDoor
