/- Short names for cells of records, in what is printed. -/
import Derived.Test.YtekkngkphejfcaaDoorDrange
import Derived.Test.YtekkngkphejfcaaDoorDat
namespace Go.Proofs.YtekkngkphejfcaaDoor
open Go.RowKit
abbrev L1 (l : List DV) : Nat → DV := fun j => l.getD j .any
abbrev rowE {α : Type} [Inhabited α] (c : α → List DV) (l : List α) : Nat → Nat → DV := fun i j => (c (l.getD i default)).getD j .any
abbrev encE {α : Type} (c : α → List DV) : α → Nat → DV := fun x j => (c x).getD j .any
def consC (c : ConsD) : List DV := [.int .i64 c.kind, .ints c.cells, .int .i64 c.set, .int .i64 c.other, .int .i64 c.lo, .int .i64 c.hi, .ints c.runs, .int .i64 c.rule, .int .i64 c.spot]
def intsC (x : List Int) : List DV := [.ints x]
def boolsC (x : List Bool) : List DV := [.bools x]
def iiC (x : Int × Int) : List DV := [.int .i64 x.1, .int .i64 x.2]
def probC (q : ProbD) : List DV := [.int .i64 q.cells, .int .i64 q.symbols, .ints q.values, .sl 1 q.nbrs.length (rowE intsC q.nbrs), .sl 9 q.cons.length (rowE consC q.cons)]
end Go.Proofs.YtekkngkphejfcaaDoor
