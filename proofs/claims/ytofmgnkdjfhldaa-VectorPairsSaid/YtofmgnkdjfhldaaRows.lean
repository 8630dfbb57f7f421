/-
  No cell of these rows narrows 'for every input' (looked for: loops, veiled, ifaces, maps, wideKeys, modest, calm, conditions, laid).
  DERIVED. THE GIVEN ROWS OF THIS SEAT. 6 by the template 'for every input the law returns true; each argument reads behind the call as it read before'; 0 by the template 'total and deterministic' (their statements: YtofmgnkdjfhldaaTotals.lean).
  GIVEN WITH THE SEED: the statements are not yours to turn. If you find one false, say at which input.
  Laid BY PROGRAM, IN A SANDBOX (cutbox-rows.mjs): the forced cells as the released guide's own fill.sh prints them over the translation 3adfad6d6d4c445c… (all of the seat's roots in one cut). By AI agents, Wed Nov 11 2026. No macro, syntax, notation, axiom, sorry.
-/
import Derived.Test.YtofmgnkdjfhldaaChecked
import GoSem.Claim
import GoSem.ClaimJoined
import GoSem.ClaimMapViews
import Derived.JoinedTies
import Derived.KernelRfl
namespace Go.Proofs.Ytofmgnkdjfhldaa
/- THE CELL 'sum', in the pinned program and in every row, IS THE sha256 OF THE DUMP (.gsa) THAT YtofmgnkdjfhldaaProg.lean LOADS. Nothing in Lean hashes anything: it is a label: what it is worth is what the hold of that sum in a sandbox is worth. -/
noncomputable def Try.pinned : Pinned := { name := "ytofmgnkdjfhldaa", sum := "3adfad6d6d4c445cf7a62e4da580c77bd1002cbfb9aaccf5defe5306e90032cc", checked := Try.checked }
namespace Rows
def none {H : Type} : Left H := { results := [], args := [] }

/-- 'gridworklaw06.VectorScales': WHATEVER THE INPUT: true; the input reads as it did. -/
def vectorScalesSpec : ChangeSpec := { name := "vectorScales", fn := fun _ => fun
  | [d1, d2, d3] => { results := [.lit (.bool true)], args := [d1, d2, d3] }
  | _ => none }
def vectorScalesRow : OpenClaim := { program := "ytofmgnkdjfhldaa", sum := "3adfad6d6d4c445cf7a62e4da580c77bd1002cbfb9aaccf5defe5306e90032cc", func := "gridwork/gridworklaw06.VectorScales", spec := "vectorScales", inPlace := ["math.Float64frombits", "math.Float64bits"], unfollowed := true, recurses := true, apart := false }
def VectorScalesSaid : Prop := vectorScalesRow.holds Try.pinned (OpenSpec.ofChange vectorScalesSpec)

/-- ITS FALSE NEIGHBOUR: 'it returns false'. Refute it at one input. -/
def vectorScalesWrong : ChangeSpec := { name := "vectorScales", fn := fun _ => fun
  | [d1, d2, d3] => { results := [.lit (.bool false)], args := [d1, d2, d3] }
  | _ => none }
def VectorScalesWrongFalsely : Prop := vectorScalesRow.holds Try.pinned (OpenSpec.ofChange vectorScalesWrong)

/-- 'gridworklaw06.VectorExact': WHATEVER THE INPUT: true; the input reads as it did. -/
def vectorExactSpec : ChangeSpec := { name := "vectorExact", fn := fun _ => fun
  | [d1, d2, d3, d4] => { results := [.lit (.bool true)], args := [d1, d2, d3, d4] }
  | _ => none }
def vectorExactRow : OpenClaim := { program := "ytofmgnkdjfhldaa", sum := "3adfad6d6d4c445cf7a62e4da580c77bd1002cbfb9aaccf5defe5306e90032cc", func := "gridwork/gridworklaw06.VectorExact", spec := "vectorExact", inPlace := ["math.Float64bits", "math.Float64frombits"], unfollowed := true, recurses := true, apart := false }
def VectorExactSaid : Prop := vectorExactRow.holds Try.pinned (OpenSpec.ofChange vectorExactSpec)

/-- ITS FALSE NEIGHBOUR: 'it returns false'. Refute it at one input. -/
def vectorExactWrong : ChangeSpec := { name := "vectorExact", fn := fun _ => fun
  | [d1, d2, d3, d4] => { results := [.lit (.bool false)], args := [d1, d2, d3, d4] }
  | _ => none }
def VectorExactWrongFalsely : Prop := vectorExactRow.holds Try.pinned (OpenSpec.ofChange vectorExactWrong)

/-- 'gridworklaw06.VectorLong': WHATEVER THE INPUT: true; the input reads as it did. -/
def vectorLongSpec : ChangeSpec := { name := "vectorLong", fn := fun _ => fun
  | [] => { results := [.lit (.bool true)], args := [] }
  | _ => none }
def vectorLongRow : OpenClaim := { program := "ytofmgnkdjfhldaa", sum := "3adfad6d6d4c445cf7a62e4da580c77bd1002cbfb9aaccf5defe5306e90032cc", func := "gridwork/gridworklaw06.VectorLong", spec := "vectorLong", inPlace := ["math.Float64bits", "math.Float64frombits"], unfollowed := true, recurses := true, apart := false }
def VectorLongSaid : Prop := vectorLongRow.holds Try.pinned (OpenSpec.ofChange vectorLongSpec)

/-- ITS FALSE NEIGHBOUR: 'it returns false'. Refute it at one input. -/
def vectorLongWrong : ChangeSpec := { name := "vectorLong", fn := fun _ => fun
  | [] => { results := [.lit (.bool false)], args := [] }
  | _ => none }
def VectorLongWrongFalsely : Prop := vectorLongRow.holds Try.pinned (OpenSpec.ofChange vectorLongWrong)

/-- 'gridworklaw06.VectorPairs': WHATEVER THE INPUT: true; the input reads as it did. -/
def vectorPairsSpec : ChangeSpec := { name := "vectorPairs", fn := fun _ => fun
  | [d1, d2] => { results := [.lit (.bool true)], args := [d1, d2] }
  | _ => none }
def vectorPairsRow : OpenClaim := { program := "ytofmgnkdjfhldaa", sum := "3adfad6d6d4c445cf7a62e4da580c77bd1002cbfb9aaccf5defe5306e90032cc", func := "gridwork/gridworklaw06.VectorPairs", spec := "vectorPairs", inPlace := ["math.Float64frombits", "math.Float64bits"], unfollowed := true, recurses := true, apart := false }
def VectorPairsSaid : Prop := vectorPairsRow.holds Try.pinned (OpenSpec.ofChange vectorPairsSpec)

/-- ITS FALSE NEIGHBOUR: 'it returns false'. Refute it at one input. -/
def vectorPairsWrong : ChangeSpec := { name := "vectorPairs", fn := fun _ => fun
  | [d1, d2] => { results := [.lit (.bool false)], args := [d1, d2] }
  | _ => none }
def VectorPairsWrongFalsely : Prop := vectorPairsRow.holds Try.pinned (OpenSpec.ofChange vectorPairsWrong)

/-- 'gridworklaw06.VectorMirror': WHATEVER THE INPUT: true; the input reads as it did. -/
def vectorMirrorSpec : ChangeSpec := { name := "vectorMirror", fn := fun _ => fun
  | [d1, d2] => { results := [.lit (.bool true)], args := [d1, d2] }
  | _ => none }
def vectorMirrorRow : OpenClaim := { program := "ytofmgnkdjfhldaa", sum := "3adfad6d6d4c445cf7a62e4da580c77bd1002cbfb9aaccf5defe5306e90032cc", func := "gridwork/gridworklaw06.VectorMirror", spec := "vectorMirror", inPlace := ["math.Float64frombits", "math.Float64bits"], unfollowed := true, recurses := true, apart := false }
def VectorMirrorSaid : Prop := vectorMirrorRow.holds Try.pinned (OpenSpec.ofChange vectorMirrorSpec)

/-- ITS FALSE NEIGHBOUR: 'it returns false'. Refute it at one input. -/
def vectorMirrorWrong : ChangeSpec := { name := "vectorMirror", fn := fun _ => fun
  | [d1, d2] => { results := [.lit (.bool false)], args := [d1, d2] }
  | _ => none }
def VectorMirrorWrongFalsely : Prop := vectorMirrorRow.holds Try.pinned (OpenSpec.ofChange vectorMirrorWrong)

/-- 'gridworklaw06.VectorNames': WHATEVER THE INPUT: true; the input reads as it did. -/
def vectorNamesSpec : ChangeSpec := { name := "vectorNames", fn := fun _ => fun
  | [] => { results := [.lit (.bool true)], args := [] }
  | _ => none }
def vectorNamesRow : OpenClaim := { program := "ytofmgnkdjfhldaa", sum := "3adfad6d6d4c445cf7a62e4da580c77bd1002cbfb9aaccf5defe5306e90032cc", func := "gridwork/gridworklaw06.VectorNames", spec := "vectorNames", inPlace := ["math.Float64frombits", "math.Float64bits"], unfollowed := true, recurses := true, apart := false }
def VectorNamesSaid : Prop := vectorNamesRow.holds Try.pinned (OpenSpec.ofChange vectorNamesSpec)

/-- ITS FALSE NEIGHBOUR: 'it returns false'. Refute it at one input. -/
def vectorNamesWrong : ChangeSpec := { name := "vectorNames", fn := fun _ => fun
  | [] => { results := [.lit (.bool false)], args := [] }
  | _ => none }
def VectorNamesWrongFalsely : Prop := vectorNamesRow.holds Try.pinned (OpenSpec.ofChange vectorNamesWrong)

/- THE SECOND FORM. 'bulk': how many values and letters a reading holds, each counted each time it is reached (what is shared counts as often as it is met; a slice's spare places count too). A statement '..UptoSaid' is the law's where the arguments, and the package variables that the reading takes, are together of bulk at most 1048576: NARROWER than '..Said'. Prove '..Said' where nothing that the law and all that it calls make is longer than what came in: it says more and counts as full. Else prove '..UptoSaid'. A law counts once. -/
mutual
def uptoBulk {H : Type} : DataW H → Nat
  | .lit (.string bytes) => bytes.length + 1
  | .lit _ => 1
  | .nil => 1
  | .ptr d => uptoBulk d + 1
  | .slice elems spare => uptoBulkAll elems + uptoBulkAll spare + 1
  | .agg parts => uptoBulkAll parts + 1
  | .iface _ d => uptoBulk d + 1
  | .map entries => uptoBulkEntries entries + 1
  | .held _ => 1
def uptoBulkAll {H : Type} : List (DataW H) → Nat
  | [] => 0
  | d :: r => uptoBulk d + uptoBulkAll r
def uptoBulkEntries {H : Type} : List (Lit × DataW H) → Nat
  | [] => 0
  | x :: r => uptoBulkEntry x + uptoBulkEntries r
def uptoBulkEntry {H : Type} : Lit × DataW H → Nat
  | (.string bytes, d) => bytes.length + uptoBulk d + 1
  | (_, d) => uptoBulk d + 1
 end
def uptoSmall : (H : Type) → List (DataW H) → Bool := fun _ ds => decide (uptoBulkAll ds ≤ 1048576)
def OpenSpec.upto (s : _root_.Go.ChangeSpec) : _root_.Go.OpenSpec := { _root_.Go.OpenSpec.ofChange s with cond := some uptoSmall }

/-- 'gridworklaw06.VectorScales', WHERE WHAT IT READS IS OF BULK AT MOST 1048576: true; the input reads as it did. -/
def vectorScalesUptoRow : OpenClaim := { program := "ytofmgnkdjfhldaa", sum := "3adfad6d6d4c445cf7a62e4da580c77bd1002cbfb9aaccf5defe5306e90032cc", func := "gridwork/gridworklaw06.VectorScales", spec := "vectorScales", inPlace := ["math.Float64frombits", "math.Float64bits"], unfollowed := true, recurses := true, apart := false, narrowed := true }
def VectorScalesUptoSaid : Prop := vectorScalesUptoRow.holds Try.pinned (OpenSpec.upto vectorScalesSpec)

/-- 'gridworklaw06.VectorExact', WHERE WHAT IT READS IS OF BULK AT MOST 1048576: true; the input reads as it did. -/
def vectorExactUptoRow : OpenClaim := { program := "ytofmgnkdjfhldaa", sum := "3adfad6d6d4c445cf7a62e4da580c77bd1002cbfb9aaccf5defe5306e90032cc", func := "gridwork/gridworklaw06.VectorExact", spec := "vectorExact", inPlace := ["math.Float64bits", "math.Float64frombits"], unfollowed := true, recurses := true, apart := false, narrowed := true }
def VectorExactUptoSaid : Prop := vectorExactUptoRow.holds Try.pinned (OpenSpec.upto vectorExactSpec)

/-- 'gridworklaw06.VectorLong', WHERE WHAT IT READS IS OF BULK AT MOST 1048576: true; the input reads as it did. -/
def vectorLongUptoRow : OpenClaim := { program := "ytofmgnkdjfhldaa", sum := "3adfad6d6d4c445cf7a62e4da580c77bd1002cbfb9aaccf5defe5306e90032cc", func := "gridwork/gridworklaw06.VectorLong", spec := "vectorLong", inPlace := ["math.Float64bits", "math.Float64frombits"], unfollowed := true, recurses := true, apart := false, narrowed := true }
def VectorLongUptoSaid : Prop := vectorLongUptoRow.holds Try.pinned (OpenSpec.upto vectorLongSpec)

/-- 'gridworklaw06.VectorPairs', WHERE WHAT IT READS IS OF BULK AT MOST 1048576: true; the input reads as it did. -/
def vectorPairsUptoRow : OpenClaim := { program := "ytofmgnkdjfhldaa", sum := "3adfad6d6d4c445cf7a62e4da580c77bd1002cbfb9aaccf5defe5306e90032cc", func := "gridwork/gridworklaw06.VectorPairs", spec := "vectorPairs", inPlace := ["math.Float64frombits", "math.Float64bits"], unfollowed := true, recurses := true, apart := false, narrowed := true }
def VectorPairsUptoSaid : Prop := vectorPairsUptoRow.holds Try.pinned (OpenSpec.upto vectorPairsSpec)

/-- 'gridworklaw06.VectorMirror', WHERE WHAT IT READS IS OF BULK AT MOST 1048576: true; the input reads as it did. -/
def vectorMirrorUptoRow : OpenClaim := { program := "ytofmgnkdjfhldaa", sum := "3adfad6d6d4c445cf7a62e4da580c77bd1002cbfb9aaccf5defe5306e90032cc", func := "gridwork/gridworklaw06.VectorMirror", spec := "vectorMirror", inPlace := ["math.Float64frombits", "math.Float64bits"], unfollowed := true, recurses := true, apart := false, narrowed := true }
def VectorMirrorUptoSaid : Prop := vectorMirrorUptoRow.holds Try.pinned (OpenSpec.upto vectorMirrorSpec)

/-- 'gridworklaw06.VectorNames', WHERE WHAT IT READS IS OF BULK AT MOST 1048576: true; the input reads as it did. -/
def vectorNamesUptoRow : OpenClaim := { program := "ytofmgnkdjfhldaa", sum := "3adfad6d6d4c445cf7a62e4da580c77bd1002cbfb9aaccf5defe5306e90032cc", func := "gridwork/gridworklaw06.VectorNames", spec := "vectorNames", inPlace := ["math.Float64frombits", "math.Float64bits"], unfollowed := true, recurses := true, apart := false, narrowed := true }
def VectorNamesUptoSaid : Prop := vectorNamesUptoRow.holds Try.pinned (OpenSpec.upto vectorNamesSpec)

end Rows
end Go.Proofs.Ytofmgnkdjfhldaa
