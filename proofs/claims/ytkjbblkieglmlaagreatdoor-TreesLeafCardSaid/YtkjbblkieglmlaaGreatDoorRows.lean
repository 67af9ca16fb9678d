/-
  NARROWER THAN 'FOR EVERY INPUT', by the rows' own cells (each row's printed sentence says how): TreesCheckSpec: laid · TreesLeavesSpec: laid · TreesRefute: laid · TreesLeaf: laid · TreesWhole: laid · TreesNext: laid · TreesDepth: laid.
  DERIVED. THE GIVEN ROWS OF THIS SEAT. 7 by the template 'for every input the law returns true; each argument reads behind the call as it read before'; 0 by the template 'total and deterministic' (their statements: YtkjbblkieglmlaaGreatDoorTotals.lean).
  GIVEN WITH THE SEED: the statements are not yours to turn. If you find one false, say at which input.
  Laid BY PROGRAM, IN A SANDBOX (cutbox-rows.mjs): the forced cells as the released guide's own fill.sh prints them over the translation b613037ea99a2d18… (all of the seat's roots in one cut). By AI agents, Wed Nov 11 2026. No macro, syntax, notation, axiom, sorry.
-/
import Derived.Test.YtkjbblkieglmlaaGreatDoorChecked
import GoSem.Claim
import GoSem.ClaimJoined
import GoSem.ClaimMapViews
import Derived.JoinedTies
import Derived.KernelRfl
namespace Go.Proofs.YtkjbblkieglmlaaGreatDoor
/- THE CELL 'sum', in the pinned program and in every row, IS THE sha256 OF THE DUMP (.gsa) THAT YtkjbblkieglmlaaGreatDoorProg.lean LOADS. Nothing in Lean hashes anything: it is a label: what it is worth is what the hold of that sum in a sandbox is worth. -/
noncomputable def Tryz.pinned : Pinned := { name := "ytkjbblkieglmlaagreatdoor", sum := "b613037ea99a2d1832c5aa3584965b4cf7f5d413563b92a0093b178913db24ad", checked := Tryz.checked }
namespace Rows
def none {H : Type} : Left H := { results := [], args := [] }

/- WHAT THE LISTED PACKAGE-LEVEL VARIABLES READ AS WHEN THE CALL BEGINS. Each datum BY PROGRAM (the guide's laid-datum.mjs) off the statement by which the dump's own 'gosem.cut.vars' lays the variable. In a bare row this is a premise. The card (YtkjbblkieglmlaaGreatDoorCards.lean) ties it to the program's text. -/
def laid_math_bits_deBruijn32tab {H : Type} : DataW H := .agg [.lit (.int .u8 0), .lit (.int .u8 1), .lit (.int .u8 28), .lit (.int .u8 2), .lit (.int .u8 29), .lit (.int .u8 14), .lit (.int .u8 24), .lit (.int .u8 3), .lit (.int .u8 30), .lit (.int .u8 22), .lit (.int .u8 20), .lit (.int .u8 15), .lit (.int .u8 25), .lit (.int .u8 17), .lit (.int .u8 4), .lit (.int .u8 8), .lit (.int .u8 31), .lit (.int .u8 27), .lit (.int .u8 13), .lit (.int .u8 23), .lit (.int .u8 21), .lit (.int .u8 19), .lit (.int .u8 16), .lit (.int .u8 7), .lit (.int .u8 26), .lit (.int .u8 12), .lit (.int .u8 18), .lit (.int .u8 6), .lit (.int .u8 11), .lit (.int .u8 5), .lit (.int .u8 10), .lit (.int .u8 9)]
def laid_math_bits_deBruijn64tab {H : Type} : DataW H := .agg [.lit (.int .u8 0), .lit (.int .u8 1), .lit (.int .u8 56), .lit (.int .u8 2), .lit (.int .u8 57), .lit (.int .u8 49), .lit (.int .u8 28), .lit (.int .u8 3), .lit (.int .u8 61), .lit (.int .u8 58), .lit (.int .u8 42), .lit (.int .u8 50), .lit (.int .u8 38), .lit (.int .u8 29), .lit (.int .u8 17), .lit (.int .u8 4), .lit (.int .u8 62), .lit (.int .u8 47), .lit (.int .u8 59), .lit (.int .u8 36), .lit (.int .u8 45), .lit (.int .u8 43), .lit (.int .u8 51), .lit (.int .u8 22), .lit (.int .u8 53), .lit (.int .u8 39), .lit (.int .u8 33), .lit (.int .u8 30), .lit (.int .u8 24), .lit (.int .u8 18), .lit (.int .u8 12), .lit (.int .u8 5), .lit (.int .u8 63), .lit (.int .u8 55), .lit (.int .u8 48), .lit (.int .u8 27), .lit (.int .u8 60), .lit (.int .u8 41), .lit (.int .u8 37), .lit (.int .u8 16), .lit (.int .u8 46), .lit (.int .u8 35), .lit (.int .u8 44), .lit (.int .u8 21), .lit (.int .u8 52), .lit (.int .u8 32), .lit (.int .u8 23), .lit (.int .u8 11), .lit (.int .u8 54), .lit (.int .u8 26), .lit (.int .u8 40), .lit (.int .u8 15), .lit (.int .u8 34), .lit (.int .u8 20), .lit (.int .u8 31), .lit (.int .u8 10), .lit (.int .u8 25), .lit (.int .u8 14), .lit (.int .u8 19), .lit (.int .u8 9), .lit (.int .u8 13), .lit (.int .u8 8), .lit (.int .u8 7), .lit (.int .u8 6)]

/-- 'gridwrightlaw28.TreesCheckSpec': WHATEVER THE INPUT: true; the input reads as it did. -/
def treesCheckSpecSpec : ChangeSpec := { name := "treesCheckSpec", fn := fun _ => fun
  | [d1, d2, d3, d4] => { results := [.lit (.bool true)], args := [d1, d2, d3, d4] }
  | _ => none }
def treesCheckSpecRow : OpenClaim := { program := "ytkjbblkieglmlaagreatdoor", sum := "b613037ea99a2d1832c5aa3584965b4cf7f5d413563b92a0093b178913db24ad", func := "gridwright/gridwrightlaw28.TreesCheckSpec", spec := "treesCheckSpec", unfollowed := true, recurses := true, named := ["math/bits.deBruijn32tab", "math/bits.deBruijn64tab"], plainKeys := false, apart := false, laid := [("math/bits.deBruijn32tab", laid_math_bits_deBruijn32tab), ("math/bits.deBruijn64tab", laid_math_bits_deBruijn64tab)] }
def TreesCheckSpecSaid : Prop := treesCheckSpecRow.holds Tryz.pinned (OpenSpec.ofChange treesCheckSpecSpec)

/-- ITS FALSE NEIGHBOUR: 'it returns false'. Refute it at one input. -/
def treesCheckSpecWrong : ChangeSpec := { name := "treesCheckSpec", fn := fun _ => fun
  | [d1, d2, d3, d4] => { results := [.lit (.bool false)], args := [d1, d2, d3, d4] }
  | _ => none }
def TreesCheckSpecWrongFalsely : Prop := treesCheckSpecRow.holds Tryz.pinned (OpenSpec.ofChange treesCheckSpecWrong)

/-- 'gridwrightlaw28.TreesLeavesSpec': WHATEVER THE INPUT: true; the input reads as it did. -/
def treesLeavesSpecSpec : ChangeSpec := { name := "treesLeavesSpec", fn := fun _ => fun
  | [d1, d2, d3, d4] => { results := [.lit (.bool true)], args := [d1, d2, d3, d4] }
  | _ => none }
def treesLeavesSpecRow : OpenClaim := { program := "ytkjbblkieglmlaagreatdoor", sum := "b613037ea99a2d1832c5aa3584965b4cf7f5d413563b92a0093b178913db24ad", func := "gridwright/gridwrightlaw28.TreesLeavesSpec", spec := "treesLeavesSpec", unfollowed := true, recurses := true, named := ["math/bits.deBruijn32tab", "math/bits.deBruijn64tab"], plainKeys := false, apart := false, laid := [("math/bits.deBruijn32tab", laid_math_bits_deBruijn32tab), ("math/bits.deBruijn64tab", laid_math_bits_deBruijn64tab)] }
def TreesLeavesSpecSaid : Prop := treesLeavesSpecRow.holds Tryz.pinned (OpenSpec.ofChange treesLeavesSpecSpec)

/-- ITS FALSE NEIGHBOUR: 'it returns false'. Refute it at one input. -/
def treesLeavesSpecWrong : ChangeSpec := { name := "treesLeavesSpec", fn := fun _ => fun
  | [d1, d2, d3, d4] => { results := [.lit (.bool false)], args := [d1, d2, d3, d4] }
  | _ => none }
def TreesLeavesSpecWrongFalsely : Prop := treesLeavesSpecRow.holds Tryz.pinned (OpenSpec.ofChange treesLeavesSpecWrong)

/-- 'gridwrightlaw28.TreesRefute': WHATEVER THE INPUT: true; the input reads as it did. -/
def treesRefuteSpec : ChangeSpec := { name := "treesRefute", fn := fun _ => fun
  | [d1, d2, d3, d4, d5] => { results := [.lit (.bool true)], args := [d1, d2, d3, d4, d5] }
  | _ => none }
def treesRefuteRow : OpenClaim := { program := "ytkjbblkieglmlaagreatdoor", sum := "b613037ea99a2d1832c5aa3584965b4cf7f5d413563b92a0093b178913db24ad", func := "gridwright/gridwrightlaw28.TreesRefute", spec := "treesRefute", unfollowed := true, recurses := true, named := ["math/bits.deBruijn32tab", "math/bits.deBruijn64tab"], plainKeys := false, apart := false, laid := [("math/bits.deBruijn32tab", laid_math_bits_deBruijn32tab), ("math/bits.deBruijn64tab", laid_math_bits_deBruijn64tab)] }
def TreesRefuteSaid : Prop := treesRefuteRow.holds Tryz.pinned (OpenSpec.ofChange treesRefuteSpec)

/-- ITS FALSE NEIGHBOUR: 'it returns false'. Refute it at one input. -/
def treesRefuteWrong : ChangeSpec := { name := "treesRefute", fn := fun _ => fun
  | [d1, d2, d3, d4, d5] => { results := [.lit (.bool false)], args := [d1, d2, d3, d4, d5] }
  | _ => none }
def TreesRefuteWrongFalsely : Prop := treesRefuteRow.holds Tryz.pinned (OpenSpec.ofChange treesRefuteWrong)

/-- 'gridwrightlaw28.TreesLeaf': WHATEVER THE INPUT: true; the input reads as it did. -/
def treesLeafSpec : ChangeSpec := { name := "treesLeaf", fn := fun _ => fun
  | [d1, d2, d3, d4] => { results := [.lit (.bool true)], args := [d1, d2, d3, d4] }
  | _ => none }
def treesLeafRow : OpenClaim := { program := "ytkjbblkieglmlaagreatdoor", sum := "b613037ea99a2d1832c5aa3584965b4cf7f5d413563b92a0093b178913db24ad", func := "gridwright/gridwrightlaw28.TreesLeaf", spec := "treesLeaf", unfollowed := true, recurses := true, named := ["math/bits.deBruijn32tab", "math/bits.deBruijn64tab"], plainKeys := false, apart := false, laid := [("math/bits.deBruijn32tab", laid_math_bits_deBruijn32tab), ("math/bits.deBruijn64tab", laid_math_bits_deBruijn64tab)] }
def TreesLeafSaid : Prop := treesLeafRow.holds Tryz.pinned (OpenSpec.ofChange treesLeafSpec)

/-- ITS FALSE NEIGHBOUR: 'it returns false'. Refute it at one input. -/
def treesLeafWrong : ChangeSpec := { name := "treesLeaf", fn := fun _ => fun
  | [d1, d2, d3, d4] => { results := [.lit (.bool false)], args := [d1, d2, d3, d4] }
  | _ => none }
def TreesLeafWrongFalsely : Prop := treesLeafRow.holds Tryz.pinned (OpenSpec.ofChange treesLeafWrong)

/-- 'gridwrightlaw28.TreesWhole': WHATEVER THE INPUT: true; the input reads as it did. -/
def treesWholeSpec : ChangeSpec := { name := "treesWhole", fn := fun _ => fun
  | [d1, d2, d3, d4] => { results := [.lit (.bool true)], args := [d1, d2, d3, d4] }
  | _ => none }
def treesWholeRow : OpenClaim := { program := "ytkjbblkieglmlaagreatdoor", sum := "b613037ea99a2d1832c5aa3584965b4cf7f5d413563b92a0093b178913db24ad", func := "gridwright/gridwrightlaw28.TreesWhole", spec := "treesWhole", unfollowed := true, recurses := true, named := ["math/bits.deBruijn32tab", "math/bits.deBruijn64tab"], plainKeys := false, apart := false, laid := [("math/bits.deBruijn32tab", laid_math_bits_deBruijn32tab), ("math/bits.deBruijn64tab", laid_math_bits_deBruijn64tab)] }
def TreesWholeSaid : Prop := treesWholeRow.holds Tryz.pinned (OpenSpec.ofChange treesWholeSpec)

/-- ITS FALSE NEIGHBOUR: 'it returns false'. Refute it at one input. -/
def treesWholeWrong : ChangeSpec := { name := "treesWhole", fn := fun _ => fun
  | [d1, d2, d3, d4] => { results := [.lit (.bool false)], args := [d1, d2, d3, d4] }
  | _ => none }
def TreesWholeWrongFalsely : Prop := treesWholeRow.holds Tryz.pinned (OpenSpec.ofChange treesWholeWrong)

/-- 'gridwrightlaw28.TreesNext': WHATEVER THE INPUT: true; the input reads as it did. -/
def treesNextSpec : ChangeSpec := { name := "treesNext", fn := fun _ => fun
  | [d1, d2, d3] => { results := [.lit (.bool true)], args := [d1, d2, d3] }
  | _ => none }
def treesNextRow : OpenClaim := { program := "ytkjbblkieglmlaagreatdoor", sum := "b613037ea99a2d1832c5aa3584965b4cf7f5d413563b92a0093b178913db24ad", func := "gridwright/gridwrightlaw28.TreesNext", spec := "treesNext", unfollowed := true, recurses := true, named := ["math/bits.deBruijn32tab", "math/bits.deBruijn64tab"], plainKeys := false, apart := false, laid := [("math/bits.deBruijn32tab", laid_math_bits_deBruijn32tab), ("math/bits.deBruijn64tab", laid_math_bits_deBruijn64tab)] }
def TreesNextSaid : Prop := treesNextRow.holds Tryz.pinned (OpenSpec.ofChange treesNextSpec)

/-- ITS FALSE NEIGHBOUR: 'it returns false'. Refute it at one input. -/
def treesNextWrong : ChangeSpec := { name := "treesNext", fn := fun _ => fun
  | [d1, d2, d3] => { results := [.lit (.bool false)], args := [d1, d2, d3] }
  | _ => none }
def TreesNextWrongFalsely : Prop := treesNextRow.holds Tryz.pinned (OpenSpec.ofChange treesNextWrong)

/-- 'gridwrightlaw28.TreesDepth': WHATEVER THE INPUT: true; the input reads as it did. -/
def treesDepthSpec : ChangeSpec := { name := "treesDepth", fn := fun _ => fun
  | [d1, d2, d3] => { results := [.lit (.bool true)], args := [d1, d2, d3] }
  | _ => none }
def treesDepthRow : OpenClaim := { program := "ytkjbblkieglmlaagreatdoor", sum := "b613037ea99a2d1832c5aa3584965b4cf7f5d413563b92a0093b178913db24ad", func := "gridwright/gridwrightlaw28.TreesDepth", spec := "treesDepth", unfollowed := true, recurses := true, named := ["math/bits.deBruijn32tab", "math/bits.deBruijn64tab"], plainKeys := false, apart := false, laid := [("math/bits.deBruijn32tab", laid_math_bits_deBruijn32tab), ("math/bits.deBruijn64tab", laid_math_bits_deBruijn64tab)] }
def TreesDepthSaid : Prop := treesDepthRow.holds Tryz.pinned (OpenSpec.ofChange treesDepthSpec)

/-- ITS FALSE NEIGHBOUR: 'it returns false'. Refute it at one input. -/
def treesDepthWrong : ChangeSpec := { name := "treesDepth", fn := fun _ => fun
  | [d1, d2, d3] => { results := [.lit (.bool false)], args := [d1, d2, d3] }
  | _ => none }
def TreesDepthWrongFalsely : Prop := treesDepthRow.holds Tryz.pinned (OpenSpec.ofChange treesDepthWrong)

/- THE SECOND FORM. 'bulk': how many values and letters a reading holds, each counted each time it is reached (what is shared counts as often as it is met; a slice's spare places count too). A statement '..UptoSaid' is the law's where the arguments, and the package variables that the reading takes, are together of bulk at most 1048576: NARROWER than '..Said'. Prove '..Said' where nothing that the law and all that it calls make is longer than what came in: it says more and counts as full. Else prove '..UptoSaid'. A law counts once. -/
mutual
def uptoBulk {H : Type} : DataW H → Nat
  | .lit (.string bytes) => bytes.length + 1
  | .lit _ => 1
  | .nil => 1
  | .ptr d => uptoBulk d + 1
  | .slice elems spare => uptoBulkAll elems + uptoBulkAll spare + 1
  | .agg parts => uptoBulkAll parts + 1
  | .iface _ d => uptoBulk d + 1
  | .map entries => uptoBulkEntries entries + 1
  | .held _ => 1
def uptoBulkAll {H : Type} : List (DataW H) → Nat
  | [] => 0
  | d :: r => uptoBulk d + uptoBulkAll r
def uptoBulkEntries {H : Type} : List (Lit × DataW H) → Nat
  | [] => 0
  | x :: r => uptoBulkEntry x + uptoBulkEntries r
def uptoBulkEntry {H : Type} : Lit × DataW H → Nat
  | (.string bytes, d) => bytes.length + uptoBulk d + 1
  | (_, d) => uptoBulk d + 1
 end
def uptoSmall : (H : Type) → List (DataW H) → Bool := fun _ ds => decide (uptoBulkAll ds ≤ 1048576)
def OpenSpec.upto (s : _root_.Go.ChangeSpec) : _root_.Go.OpenSpec := { _root_.Go.OpenSpec.ofChange s with cond := some uptoSmall }

/-- 'gridwrightlaw28.TreesCheckSpec', WHERE WHAT IT READS IS OF BULK AT MOST 1048576: true; the input reads as it did. -/
def treesCheckSpecUptoRow : OpenClaim := { program := "ytkjbblkieglmlaagreatdoor", sum := "b613037ea99a2d1832c5aa3584965b4cf7f5d413563b92a0093b178913db24ad", func := "gridwright/gridwrightlaw28.TreesCheckSpec", spec := "treesCheckSpec", unfollowed := true, recurses := true, named := ["math/bits.deBruijn32tab", "math/bits.deBruijn64tab"], plainKeys := false, apart := false, laid := [("math/bits.deBruijn32tab", laid_math_bits_deBruijn32tab), ("math/bits.deBruijn64tab", laid_math_bits_deBruijn64tab)], narrowed := true }
def TreesCheckSpecUptoSaid : Prop := treesCheckSpecUptoRow.holds Tryz.pinned (OpenSpec.upto treesCheckSpecSpec)

/-- 'gridwrightlaw28.TreesLeavesSpec', WHERE WHAT IT READS IS OF BULK AT MOST 1048576: true; the input reads as it did. -/
def treesLeavesSpecUptoRow : OpenClaim := { program := "ytkjbblkieglmlaagreatdoor", sum := "b613037ea99a2d1832c5aa3584965b4cf7f5d413563b92a0093b178913db24ad", func := "gridwright/gridwrightlaw28.TreesLeavesSpec", spec := "treesLeavesSpec", unfollowed := true, recurses := true, named := ["math/bits.deBruijn32tab", "math/bits.deBruijn64tab"], plainKeys := false, apart := false, laid := [("math/bits.deBruijn32tab", laid_math_bits_deBruijn32tab), ("math/bits.deBruijn64tab", laid_math_bits_deBruijn64tab)], narrowed := true }
def TreesLeavesSpecUptoSaid : Prop := treesLeavesSpecUptoRow.holds Tryz.pinned (OpenSpec.upto treesLeavesSpecSpec)

/-- 'gridwrightlaw28.TreesRefute', WHERE WHAT IT READS IS OF BULK AT MOST 1048576: true; the input reads as it did. -/
def treesRefuteUptoRow : OpenClaim := { program := "ytkjbblkieglmlaagreatdoor", sum := "b613037ea99a2d1832c5aa3584965b4cf7f5d413563b92a0093b178913db24ad", func := "gridwright/gridwrightlaw28.TreesRefute", spec := "treesRefute", unfollowed := true, recurses := true, named := ["math/bits.deBruijn32tab", "math/bits.deBruijn64tab"], plainKeys := false, apart := false, laid := [("math/bits.deBruijn32tab", laid_math_bits_deBruijn32tab), ("math/bits.deBruijn64tab", laid_math_bits_deBruijn64tab)], narrowed := true }
def TreesRefuteUptoSaid : Prop := treesRefuteUptoRow.holds Tryz.pinned (OpenSpec.upto treesRefuteSpec)

/-- 'gridwrightlaw28.TreesLeaf', WHERE WHAT IT READS IS OF BULK AT MOST 1048576: true; the input reads as it did. -/
def treesLeafUptoRow : OpenClaim := { program := "ytkjbblkieglmlaagreatdoor", sum := "b613037ea99a2d1832c5aa3584965b4cf7f5d413563b92a0093b178913db24ad", func := "gridwright/gridwrightlaw28.TreesLeaf", spec := "treesLeaf", unfollowed := true, recurses := true, named := ["math/bits.deBruijn32tab", "math/bits.deBruijn64tab"], plainKeys := false, apart := false, laid := [("math/bits.deBruijn32tab", laid_math_bits_deBruijn32tab), ("math/bits.deBruijn64tab", laid_math_bits_deBruijn64tab)], narrowed := true }
def TreesLeafUptoSaid : Prop := treesLeafUptoRow.holds Tryz.pinned (OpenSpec.upto treesLeafSpec)

/-- 'gridwrightlaw28.TreesWhole', WHERE WHAT IT READS IS OF BULK AT MOST 1048576: true; the input reads as it did. -/
def treesWholeUptoRow : OpenClaim := { program := "ytkjbblkieglmlaagreatdoor", sum := "b613037ea99a2d1832c5aa3584965b4cf7f5d413563b92a0093b178913db24ad", func := "gridwright/gridwrightlaw28.TreesWhole", spec := "treesWhole", unfollowed := true, recurses := true, named := ["math/bits.deBruijn32tab", "math/bits.deBruijn64tab"], plainKeys := false, apart := false, laid := [("math/bits.deBruijn32tab", laid_math_bits_deBruijn32tab), ("math/bits.deBruijn64tab", laid_math_bits_deBruijn64tab)], narrowed := true }
def TreesWholeUptoSaid : Prop := treesWholeUptoRow.holds Tryz.pinned (OpenSpec.upto treesWholeSpec)

/-- 'gridwrightlaw28.TreesNext', WHERE WHAT IT READS IS OF BULK AT MOST 1048576: true; the input reads as it did. -/
def treesNextUptoRow : OpenClaim := { program := "ytkjbblkieglmlaagreatdoor", sum := "b613037ea99a2d1832c5aa3584965b4cf7f5d413563b92a0093b178913db24ad", func := "gridwright/gridwrightlaw28.TreesNext", spec := "treesNext", unfollowed := true, recurses := true, named := ["math/bits.deBruijn32tab", "math/bits.deBruijn64tab"], plainKeys := false, apart := false, laid := [("math/bits.deBruijn32tab", laid_math_bits_deBruijn32tab), ("math/bits.deBruijn64tab", laid_math_bits_deBruijn64tab)], narrowed := true }
def TreesNextUptoSaid : Prop := treesNextUptoRow.holds Tryz.pinned (OpenSpec.upto treesNextSpec)

/-- 'gridwrightlaw28.TreesDepth', WHERE WHAT IT READS IS OF BULK AT MOST 1048576: true; the input reads as it did. -/
def treesDepthUptoRow : OpenClaim := { program := "ytkjbblkieglmlaagreatdoor", sum := "b613037ea99a2d1832c5aa3584965b4cf7f5d413563b92a0093b178913db24ad", func := "gridwright/gridwrightlaw28.TreesDepth", spec := "treesDepth", unfollowed := true, recurses := true, named := ["math/bits.deBruijn32tab", "math/bits.deBruijn64tab"], plainKeys := false, apart := false, laid := [("math/bits.deBruijn32tab", laid_math_bits_deBruijn32tab), ("math/bits.deBruijn64tab", laid_math_bits_deBruijn64tab)], narrowed := true }
def TreesDepthUptoSaid : Prop := treesDepthUptoRow.holds Tryz.pinned (OpenSpec.upto treesDepthSpec)

end Rows
end Go.Proofs.YtkjbblkieglmlaaGreatDoor
