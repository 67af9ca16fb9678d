/-
  NARROWER THAN 'FOR EVERY INPUT', by the rows' own cells (each row's printed sentence says how): FixpointSteps: laid · FixpointMonotone: laid · FixpointRemoved: laid · PruneSound: laid · PruneComplete: laid · PruneExact: laid · FixpointSound: laid.
  DERIVED. THE GIVEN ROWS OF THIS SEAT. 7 by the template 'for every input the law returns true; each argument reads behind the call as it read before'; 0 by the template 'total and deterministic' (their statements: YtgkhhfnhacibcaaGreatDoorTotals.lean).
  GIVEN WITH THE SEED: the statements are not yours to turn. If you find one false, say at which input.
  Laid BY PROGRAM, IN A SANDBOX (cutbox-rows.mjs): the forced cells as the released guide's own fill.sh prints them over the translation 8d81ff5be0210d78… (all of the seat's roots in one cut). By AI agents, Wed Nov 11 2026. No macro, syntax, notation, axiom, sorry.
-/
import Derived.Test.YtgkhhfnhacibcaaGreatDoorChecked
import GoSem.Claim
import GoSem.ClaimJoined
import GoSem.ClaimMapViews
import Derived.JoinedTies
import Derived.KernelRfl
namespace Go.Proofs.YtgkhhfnhacibcaaGreatDoor
/- THE CELL 'sum', in the pinned program and in every row, IS THE sha256 OF THE DUMP (.gsa) THAT YtgkhhfnhacibcaaGreatDoorProg.lean LOADS. Nothing in Lean hashes anything: it is a label: what it is worth is what the hold of that sum in a sandbox is worth. -/
noncomputable def Tryz.pinned : Pinned := { name := "ytgkhhfnhacibcaagreatdoor", sum := "8d81ff5be0210d782023e4468857373f724fd4ce715ea21615fc6b3bcf8d0932", checked := Tryz.checked }
namespace Rows
def none {H : Type} : Left H := { results := [], args := [] }

/- WHAT THE LISTED PACKAGE-LEVEL VARIABLES READ AS WHEN THE CALL BEGINS. Each datum BY PROGRAM (the guide's laid-datum.mjs) off the statement by which the dump's own 'gosem.cut.vars' lays the variable. In a bare row this is a premise. The card (YtgkhhfnhacibcaaGreatDoorCards.lean) ties it to the program's text. -/
def laid_math_bits_deBruijn32tab {H : Type} : DataW H := .agg [.lit (.int .u8 0), .lit (.int .u8 1), .lit (.int .u8 28), .lit (.int .u8 2), .lit (.int .u8 29), .lit (.int .u8 14), .lit (.int .u8 24), .lit (.int .u8 3), .lit (.int .u8 30), .lit (.int .u8 22), .lit (.int .u8 20), .lit (.int .u8 15), .lit (.int .u8 25), .lit (.int .u8 17), .lit (.int .u8 4), .lit (.int .u8 8), .lit (.int .u8 31), .lit (.int .u8 27), .lit (.int .u8 13), .lit (.int .u8 23), .lit (.int .u8 21), .lit (.int .u8 19), .lit (.int .u8 16), .lit (.int .u8 7), .lit (.int .u8 26), .lit (.int .u8 12), .lit (.int .u8 18), .lit (.int .u8 6), .lit (.int .u8 11), .lit (.int .u8 5), .lit (.int .u8 10), .lit (.int .u8 9)]
def laid_math_bits_deBruijn64tab {H : Type} : DataW H := .agg [.lit (.int .u8 0), .lit (.int .u8 1), .lit (.int .u8 56), .lit (.int .u8 2), .lit (.int .u8 57), .lit (.int .u8 49), .lit (.int .u8 28), .lit (.int .u8 3), .lit (.int .u8 61), .lit (.int .u8 58), .lit (.int .u8 42), .lit (.int .u8 50), .lit (.int .u8 38), .lit (.int .u8 29), .lit (.int .u8 17), .lit (.int .u8 4), .lit (.int .u8 62), .lit (.int .u8 47), .lit (.int .u8 59), .lit (.int .u8 36), .lit (.int .u8 45), .lit (.int .u8 43), .lit (.int .u8 51), .lit (.int .u8 22), .lit (.int .u8 53), .lit (.int .u8 39), .lit (.int .u8 33), .lit (.int .u8 30), .lit (.int .u8 24), .lit (.int .u8 18), .lit (.int .u8 12), .lit (.int .u8 5), .lit (.int .u8 63), .lit (.int .u8 55), .lit (.int .u8 48), .lit (.int .u8 27), .lit (.int .u8 60), .lit (.int .u8 41), .lit (.int .u8 37), .lit (.int .u8 16), .lit (.int .u8 46), .lit (.int .u8 35), .lit (.int .u8 44), .lit (.int .u8 21), .lit (.int .u8 52), .lit (.int .u8 32), .lit (.int .u8 23), .lit (.int .u8 11), .lit (.int .u8 54), .lit (.int .u8 26), .lit (.int .u8 40), .lit (.int .u8 15), .lit (.int .u8 34), .lit (.int .u8 20), .lit (.int .u8 31), .lit (.int .u8 10), .lit (.int .u8 25), .lit (.int .u8 14), .lit (.int .u8 19), .lit (.int .u8 9), .lit (.int .u8 13), .lit (.int .u8 8), .lit (.int .u8 7), .lit (.int .u8 6)]

/-- 'gridwrightlaw27.FixpointSteps': WHATEVER THE INPUT: true; the input reads as it did. -/
def fixpointStepsSpec : ChangeSpec := { name := "fixpointSteps", fn := fun _ => fun
  | [d1, d2, d3] => { results := [.lit (.bool true)], args := [d1, d2, d3] }
  | _ => none }
def fixpointStepsRow : OpenClaim := { program := "ytgkhhfnhacibcaagreatdoor", sum := "8d81ff5be0210d782023e4468857373f724fd4ce715ea21615fc6b3bcf8d0932", func := "gridwright/gridwrightlaw27.FixpointSteps", spec := "fixpointSteps", unfollowed := true, recurses := true, named := ["math/bits.deBruijn32tab", "math/bits.deBruijn64tab"], plainKeys := false, apart := false, laid := [("math/bits.deBruijn32tab", laid_math_bits_deBruijn32tab), ("math/bits.deBruijn64tab", laid_math_bits_deBruijn64tab)] }
def FixpointStepsSaid : Prop := fixpointStepsRow.holds Tryz.pinned (OpenSpec.ofChange fixpointStepsSpec)

/-- ITS FALSE NEIGHBOUR: 'it returns false'. Refute it at one input. -/
def fixpointStepsWrong : ChangeSpec := { name := "fixpointSteps", fn := fun _ => fun
  | [d1, d2, d3] => { results := [.lit (.bool false)], args := [d1, d2, d3] }
  | _ => none }
def FixpointStepsWrongFalsely : Prop := fixpointStepsRow.holds Tryz.pinned (OpenSpec.ofChange fixpointStepsWrong)

/-- 'gridwrightlaw27.FixpointMonotone': WHATEVER THE INPUT: true; the input reads as it did. -/
def fixpointMonotoneSpec : ChangeSpec := { name := "fixpointMonotone", fn := fun _ => fun
  | [d1, d2, d3, d4, d5] => { results := [.lit (.bool true)], args := [d1, d2, d3, d4, d5] }
  | _ => none }
def fixpointMonotoneRow : OpenClaim := { program := "ytgkhhfnhacibcaagreatdoor", sum := "8d81ff5be0210d782023e4468857373f724fd4ce715ea21615fc6b3bcf8d0932", func := "gridwright/gridwrightlaw27.FixpointMonotone", spec := "fixpointMonotone", unfollowed := true, recurses := true, named := ["math/bits.deBruijn32tab", "math/bits.deBruijn64tab"], plainKeys := false, apart := false, laid := [("math/bits.deBruijn32tab", laid_math_bits_deBruijn32tab), ("math/bits.deBruijn64tab", laid_math_bits_deBruijn64tab)] }
def FixpointMonotoneSaid : Prop := fixpointMonotoneRow.holds Tryz.pinned (OpenSpec.ofChange fixpointMonotoneSpec)

/-- ITS FALSE NEIGHBOUR: 'it returns false'. Refute it at one input. -/
def fixpointMonotoneWrong : ChangeSpec := { name := "fixpointMonotone", fn := fun _ => fun
  | [d1, d2, d3, d4, d5] => { results := [.lit (.bool false)], args := [d1, d2, d3, d4, d5] }
  | _ => none }
def FixpointMonotoneWrongFalsely : Prop := fixpointMonotoneRow.holds Tryz.pinned (OpenSpec.ofChange fixpointMonotoneWrong)

/-- 'gridwrightlaw27.FixpointRemoved': WHATEVER THE INPUT: true; the input reads as it did. -/
def fixpointRemovedSpec : ChangeSpec := { name := "fixpointRemoved", fn := fun _ => fun
  | [d1, d2, d3, d4, d5] => { results := [.lit (.bool true)], args := [d1, d2, d3, d4, d5] }
  | _ => none }
def fixpointRemovedRow : OpenClaim := { program := "ytgkhhfnhacibcaagreatdoor", sum := "8d81ff5be0210d782023e4468857373f724fd4ce715ea21615fc6b3bcf8d0932", func := "gridwright/gridwrightlaw27.FixpointRemoved", spec := "fixpointRemoved", unfollowed := true, recurses := true, named := ["math/bits.deBruijn32tab", "math/bits.deBruijn64tab"], plainKeys := false, apart := false, laid := [("math/bits.deBruijn32tab", laid_math_bits_deBruijn32tab), ("math/bits.deBruijn64tab", laid_math_bits_deBruijn64tab)] }
def FixpointRemovedSaid : Prop := fixpointRemovedRow.holds Tryz.pinned (OpenSpec.ofChange fixpointRemovedSpec)

/-- ITS FALSE NEIGHBOUR: 'it returns false'. Refute it at one input. -/
def fixpointRemovedWrong : ChangeSpec := { name := "fixpointRemoved", fn := fun _ => fun
  | [d1, d2, d3, d4, d5] => { results := [.lit (.bool false)], args := [d1, d2, d3, d4, d5] }
  | _ => none }
def FixpointRemovedWrongFalsely : Prop := fixpointRemovedRow.holds Tryz.pinned (OpenSpec.ofChange fixpointRemovedWrong)

/-- 'gridwrightlaw26.PruneSound': WHATEVER THE INPUT: true; the input reads as it did. -/
def pruneSoundSpec : ChangeSpec := { name := "pruneSound", fn := fun _ => fun
  | [d1, d2, d3, d4] => { results := [.lit (.bool true)], args := [d1, d2, d3, d4] }
  | _ => none }
def pruneSoundRow : OpenClaim := { program := "ytgkhhfnhacibcaagreatdoor", sum := "8d81ff5be0210d782023e4468857373f724fd4ce715ea21615fc6b3bcf8d0932", func := "gridwright/gridwrightlaw26.PruneSound", spec := "pruneSound", unfollowed := true, recurses := true, named := ["math/bits.deBruijn32tab", "math/bits.deBruijn64tab"], plainKeys := false, apart := false, laid := [("math/bits.deBruijn32tab", laid_math_bits_deBruijn32tab), ("math/bits.deBruijn64tab", laid_math_bits_deBruijn64tab)] }
def PruneSoundSaid : Prop := pruneSoundRow.holds Tryz.pinned (OpenSpec.ofChange pruneSoundSpec)

/-- ITS FALSE NEIGHBOUR: 'it returns false'. Refute it at one input. -/
def pruneSoundWrong : ChangeSpec := { name := "pruneSound", fn := fun _ => fun
  | [d1, d2, d3, d4] => { results := [.lit (.bool false)], args := [d1, d2, d3, d4] }
  | _ => none }
def PruneSoundWrongFalsely : Prop := pruneSoundRow.holds Tryz.pinned (OpenSpec.ofChange pruneSoundWrong)

/-- 'gridwrightlaw26.PruneComplete': WHATEVER THE INPUT: true; the input reads as it did. -/
def pruneCompleteSpec : ChangeSpec := { name := "pruneComplete", fn := fun _ => fun
  | [d1, d2, d3] => { results := [.lit (.bool true)], args := [d1, d2, d3] }
  | _ => none }
def pruneCompleteRow : OpenClaim := { program := "ytgkhhfnhacibcaagreatdoor", sum := "8d81ff5be0210d782023e4468857373f724fd4ce715ea21615fc6b3bcf8d0932", func := "gridwright/gridwrightlaw26.PruneComplete", spec := "pruneComplete", unfollowed := true, recurses := true, named := ["math/bits.deBruijn32tab", "math/bits.deBruijn64tab"], plainKeys := false, apart := false, laid := [("math/bits.deBruijn32tab", laid_math_bits_deBruijn32tab), ("math/bits.deBruijn64tab", laid_math_bits_deBruijn64tab)] }
def PruneCompleteSaid : Prop := pruneCompleteRow.holds Tryz.pinned (OpenSpec.ofChange pruneCompleteSpec)

/-- ITS FALSE NEIGHBOUR: 'it returns false'. Refute it at one input. -/
def pruneCompleteWrong : ChangeSpec := { name := "pruneComplete", fn := fun _ => fun
  | [d1, d2, d3] => { results := [.lit (.bool false)], args := [d1, d2, d3] }
  | _ => none }
def PruneCompleteWrongFalsely : Prop := pruneCompleteRow.holds Tryz.pinned (OpenSpec.ofChange pruneCompleteWrong)

/-- 'gridwrightlaw26.PruneExact': WHATEVER THE INPUT: true; the input reads as it did. -/
def pruneExactSpec : ChangeSpec := { name := "pruneExact", fn := fun _ => fun
  | [d1, d2, d3] => { results := [.lit (.bool true)], args := [d1, d2, d3] }
  | _ => none }
def pruneExactRow : OpenClaim := { program := "ytgkhhfnhacibcaagreatdoor", sum := "8d81ff5be0210d782023e4468857373f724fd4ce715ea21615fc6b3bcf8d0932", func := "gridwright/gridwrightlaw26.PruneExact", spec := "pruneExact", unfollowed := true, recurses := true, named := ["math/bits.deBruijn32tab", "math/bits.deBruijn64tab"], plainKeys := false, apart := false, laid := [("math/bits.deBruijn32tab", laid_math_bits_deBruijn32tab), ("math/bits.deBruijn64tab", laid_math_bits_deBruijn64tab)] }
def PruneExactSaid : Prop := pruneExactRow.holds Tryz.pinned (OpenSpec.ofChange pruneExactSpec)

/-- ITS FALSE NEIGHBOUR: 'it returns false'. Refute it at one input. -/
def pruneExactWrong : ChangeSpec := { name := "pruneExact", fn := fun _ => fun
  | [d1, d2, d3] => { results := [.lit (.bool false)], args := [d1, d2, d3] }
  | _ => none }
def PruneExactWrongFalsely : Prop := pruneExactRow.holds Tryz.pinned (OpenSpec.ofChange pruneExactWrong)

/-- 'gridwrightlaw27.FixpointSound': WHATEVER THE INPUT: true; the input reads as it did. -/
def fixpointSoundSpec : ChangeSpec := { name := "fixpointSound", fn := fun _ => fun
  | [d1, d2, d3, d4] => { results := [.lit (.bool true)], args := [d1, d2, d3, d4] }
  | _ => none }
def fixpointSoundRow : OpenClaim := { program := "ytgkhhfnhacibcaagreatdoor", sum := "8d81ff5be0210d782023e4468857373f724fd4ce715ea21615fc6b3bcf8d0932", func := "gridwright/gridwrightlaw27.FixpointSound", spec := "fixpointSound", unfollowed := true, recurses := true, named := ["math/bits.deBruijn32tab", "math/bits.deBruijn64tab"], plainKeys := false, apart := false, laid := [("math/bits.deBruijn32tab", laid_math_bits_deBruijn32tab), ("math/bits.deBruijn64tab", laid_math_bits_deBruijn64tab)] }
def FixpointSoundSaid : Prop := fixpointSoundRow.holds Tryz.pinned (OpenSpec.ofChange fixpointSoundSpec)

/-- ITS FALSE NEIGHBOUR: 'it returns false'. Refute it at one input. -/
def fixpointSoundWrong : ChangeSpec := { name := "fixpointSound", fn := fun _ => fun
  | [d1, d2, d3, d4] => { results := [.lit (.bool false)], args := [d1, d2, d3, d4] }
  | _ => none }
def FixpointSoundWrongFalsely : Prop := fixpointSoundRow.holds Tryz.pinned (OpenSpec.ofChange fixpointSoundWrong)

/- THE SECOND FORM. 'bulk': how many values and letters a reading holds, each counted each time it is reached (what is shared counts as often as it is met; a slice's spare places count too). A statement '..UptoSaid' is the law's where the arguments, and the package variables that the reading takes, are together of bulk at most 1048576: NARROWER than '..Said'. Prove '..Said' where nothing that the law and all that it calls make is longer than what came in: it says more and counts as full. Else prove '..UptoSaid'. A law counts once. -/
mutual
def uptoBulk {H : Type} : DataW H → Nat
  | .lit (.string bytes) => bytes.length + 1
  | .lit _ => 1
  | .nil => 1
  | .ptr d => uptoBulk d + 1
  | .slice elems spare => uptoBulkAll elems + uptoBulkAll spare + 1
  | .agg parts => uptoBulkAll parts + 1
  | .iface _ d => uptoBulk d + 1
  | .map entries => uptoBulkEntries entries + 1
  | .held _ => 1
def uptoBulkAll {H : Type} : List (DataW H) → Nat
  | [] => 0
  | d :: r => uptoBulk d + uptoBulkAll r
def uptoBulkEntries {H : Type} : List (Lit × DataW H) → Nat
  | [] => 0
  | x :: r => uptoBulkEntry x + uptoBulkEntries r
def uptoBulkEntry {H : Type} : Lit × DataW H → Nat
  | (.string bytes, d) => bytes.length + uptoBulk d + 1
  | (_, d) => uptoBulk d + 1
 end
def uptoSmall : (H : Type) → List (DataW H) → Bool := fun _ ds => decide (uptoBulkAll ds ≤ 1048576)
def OpenSpec.upto (s : _root_.Go.ChangeSpec) : _root_.Go.OpenSpec := { _root_.Go.OpenSpec.ofChange s with cond := some uptoSmall }

/-- 'gridwrightlaw27.FixpointSteps', WHERE WHAT IT READS IS OF BULK AT MOST 1048576: true; the input reads as it did. -/
def fixpointStepsUptoRow : OpenClaim := { program := "ytgkhhfnhacibcaagreatdoor", sum := "8d81ff5be0210d782023e4468857373f724fd4ce715ea21615fc6b3bcf8d0932", func := "gridwright/gridwrightlaw27.FixpointSteps", spec := "fixpointSteps", unfollowed := true, recurses := true, named := ["math/bits.deBruijn32tab", "math/bits.deBruijn64tab"], plainKeys := false, apart := false, laid := [("math/bits.deBruijn32tab", laid_math_bits_deBruijn32tab), ("math/bits.deBruijn64tab", laid_math_bits_deBruijn64tab)], narrowed := true }
def FixpointStepsUptoSaid : Prop := fixpointStepsUptoRow.holds Tryz.pinned (OpenSpec.upto fixpointStepsSpec)

/-- 'gridwrightlaw27.FixpointMonotone', WHERE WHAT IT READS IS OF BULK AT MOST 1048576: true; the input reads as it did. -/
def fixpointMonotoneUptoRow : OpenClaim := { program := "ytgkhhfnhacibcaagreatdoor", sum := "8d81ff5be0210d782023e4468857373f724fd4ce715ea21615fc6b3bcf8d0932", func := "gridwright/gridwrightlaw27.FixpointMonotone", spec := "fixpointMonotone", unfollowed := true, recurses := true, named := ["math/bits.deBruijn32tab", "math/bits.deBruijn64tab"], plainKeys := false, apart := false, laid := [("math/bits.deBruijn32tab", laid_math_bits_deBruijn32tab), ("math/bits.deBruijn64tab", laid_math_bits_deBruijn64tab)], narrowed := true }
def FixpointMonotoneUptoSaid : Prop := fixpointMonotoneUptoRow.holds Tryz.pinned (OpenSpec.upto fixpointMonotoneSpec)

/-- 'gridwrightlaw27.FixpointRemoved', WHERE WHAT IT READS IS OF BULK AT MOST 1048576: true; the input reads as it did. -/
def fixpointRemovedUptoRow : OpenClaim := { program := "ytgkhhfnhacibcaagreatdoor", sum := "8d81ff5be0210d782023e4468857373f724fd4ce715ea21615fc6b3bcf8d0932", func := "gridwright/gridwrightlaw27.FixpointRemoved", spec := "fixpointRemoved", unfollowed := true, recurses := true, named := ["math/bits.deBruijn32tab", "math/bits.deBruijn64tab"], plainKeys := false, apart := false, laid := [("math/bits.deBruijn32tab", laid_math_bits_deBruijn32tab), ("math/bits.deBruijn64tab", laid_math_bits_deBruijn64tab)], narrowed := true }
def FixpointRemovedUptoSaid : Prop := fixpointRemovedUptoRow.holds Tryz.pinned (OpenSpec.upto fixpointRemovedSpec)

/-- 'gridwrightlaw26.PruneSound', WHERE WHAT IT READS IS OF BULK AT MOST 1048576: true; the input reads as it did. -/
def pruneSoundUptoRow : OpenClaim := { program := "ytgkhhfnhacibcaagreatdoor", sum := "8d81ff5be0210d782023e4468857373f724fd4ce715ea21615fc6b3bcf8d0932", func := "gridwright/gridwrightlaw26.PruneSound", spec := "pruneSound", unfollowed := true, recurses := true, named := ["math/bits.deBruijn32tab", "math/bits.deBruijn64tab"], plainKeys := false, apart := false, laid := [("math/bits.deBruijn32tab", laid_math_bits_deBruijn32tab), ("math/bits.deBruijn64tab", laid_math_bits_deBruijn64tab)], narrowed := true }
def PruneSoundUptoSaid : Prop := pruneSoundUptoRow.holds Tryz.pinned (OpenSpec.upto pruneSoundSpec)

/-- 'gridwrightlaw26.PruneComplete', WHERE WHAT IT READS IS OF BULK AT MOST 1048576: true; the input reads as it did. -/
def pruneCompleteUptoRow : OpenClaim := { program := "ytgkhhfnhacibcaagreatdoor", sum := "8d81ff5be0210d782023e4468857373f724fd4ce715ea21615fc6b3bcf8d0932", func := "gridwright/gridwrightlaw26.PruneComplete", spec := "pruneComplete", unfollowed := true, recurses := true, named := ["math/bits.deBruijn32tab", "math/bits.deBruijn64tab"], plainKeys := false, apart := false, laid := [("math/bits.deBruijn32tab", laid_math_bits_deBruijn32tab), ("math/bits.deBruijn64tab", laid_math_bits_deBruijn64tab)], narrowed := true }
def PruneCompleteUptoSaid : Prop := pruneCompleteUptoRow.holds Tryz.pinned (OpenSpec.upto pruneCompleteSpec)

/-- 'gridwrightlaw26.PruneExact', WHERE WHAT IT READS IS OF BULK AT MOST 1048576: true; the input reads as it did. -/
def pruneExactUptoRow : OpenClaim := { program := "ytgkhhfnhacibcaagreatdoor", sum := "8d81ff5be0210d782023e4468857373f724fd4ce715ea21615fc6b3bcf8d0932", func := "gridwright/gridwrightlaw26.PruneExact", spec := "pruneExact", unfollowed := true, recurses := true, named := ["math/bits.deBruijn32tab", "math/bits.deBruijn64tab"], plainKeys := false, apart := false, laid := [("math/bits.deBruijn32tab", laid_math_bits_deBruijn32tab), ("math/bits.deBruijn64tab", laid_math_bits_deBruijn64tab)], narrowed := true }
def PruneExactUptoSaid : Prop := pruneExactUptoRow.holds Tryz.pinned (OpenSpec.upto pruneExactSpec)

/-- 'gridwrightlaw27.FixpointSound', WHERE WHAT IT READS IS OF BULK AT MOST 1048576: true; the input reads as it did. -/
def fixpointSoundUptoRow : OpenClaim := { program := "ytgkhhfnhacibcaagreatdoor", sum := "8d81ff5be0210d782023e4468857373f724fd4ce715ea21615fc6b3bcf8d0932", func := "gridwright/gridwrightlaw27.FixpointSound", spec := "fixpointSound", unfollowed := true, recurses := true, named := ["math/bits.deBruijn32tab", "math/bits.deBruijn64tab"], plainKeys := false, apart := false, laid := [("math/bits.deBruijn32tab", laid_math_bits_deBruijn32tab), ("math/bits.deBruijn64tab", laid_math_bits_deBruijn64tab)], narrowed := true }
def FixpointSoundUptoSaid : Prop := fixpointSoundUptoRow.holds Tryz.pinned (OpenSpec.upto fixpointSoundSpec)

end Rows
end Go.Proofs.YtgkhhfnhacibcaaGreatDoor
