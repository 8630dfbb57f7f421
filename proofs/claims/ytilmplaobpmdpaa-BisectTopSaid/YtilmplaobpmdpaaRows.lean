/-
  No cell of these rows narrows 'for every input' (looked for: loops, veiled, ifaces, maps, wideKeys, modest, calm, conditions, laid).
  DERIVED. THE GIVEN ROWS OF THIS SEAT. 7 by the template 'for every input the law returns true; each argument reads behind the call as it read before'; 0 by the template 'total and deterministic' (their statements: YtilmplaobpmdpaaTotals.lean).
  GIVEN WITH THE SEED: the statements are not yours to turn. If you find one false, say at which input.
  Laid BY PROGRAM, IN A SANDBOX (cutbox-rows.mjs): the forced cells as the released guide's own fill.sh prints them over the translation be71e71f8508e9b7… (all of the seat's roots in one cut). By AI agents, Wed Nov 11 2026. No macro, syntax, notation, axiom, sorry.
-/
import Derived.Test.YtilmplaobpmdpaaChecked
import GoSem.Claim
import GoSem.ClaimJoined
import GoSem.ClaimMapViews
import Derived.JoinedTies
import Derived.KernelRfl
namespace Go.Proofs.Ytilmplaobpmdpaa
/- THE CELL 'sum', in the pinned program and in every row, IS THE sha256 OF THE DUMP (.gsa) THAT YtilmplaobpmdpaaProg.lean LOADS. Nothing in Lean hashes anything: it is a label: what it is worth is what the hold of that sum in a sandbox is worth. -/
noncomputable def Try.pinned : Pinned := { name := "ytilmplaobpmdpaa", sum := "be71e71f8508e9b72151966b0787737093b18693e6a93c9c66fbc3782f99c202", checked := Try.checked }
namespace Rows
def none {H : Type} : Left H := { results := [], args := [] }

/-- 'gridworklaw27.BisectMiddle': WHATEVER THE INPUT: true; the input reads as it did. -/
def bisectMiddleSpec : ChangeSpec := { name := "bisectMiddle", fn := fun _ => fun
  | [d1, d2] => { results := [.lit (.bool true)], args := [d1, d2] }
  | _ => none }
def bisectMiddleRow : OpenClaim := { program := "ytilmplaobpmdpaa", sum := "be71e71f8508e9b72151966b0787737093b18693e6a93c9c66fbc3782f99c202", func := "gridwork/gridworklaw27.BisectMiddle", spec := "bisectMiddle", inPlace := ["math.Float64frombits", "math.Float64bits"], apart := false }
def BisectMiddleSaid : Prop := bisectMiddleRow.holds Try.pinned (OpenSpec.ofChange bisectMiddleSpec)

/-- ITS FALSE NEIGHBOUR: 'it returns false'. Refute it at one input. -/
def bisectMiddleWrong : ChangeSpec := { name := "bisectMiddle", fn := fun _ => fun
  | [d1, d2] => { results := [.lit (.bool false)], args := [d1, d2] }
  | _ => none }
def BisectMiddleWrongFalsely : Prop := bisectMiddleRow.holds Try.pinned (OpenSpec.ofChange bisectMiddleWrong)

/-- 'gridworklaw27.BisectGreatest': WHATEVER THE INPUT: true; the input reads as it did. -/
def bisectGreatestSpec : ChangeSpec := { name := "bisectGreatest", fn := fun _ => fun
  | [d1, d2, d3, d4] => { results := [.lit (.bool true)], args := [d1, d2, d3, d4] }
  | _ => none }
def bisectGreatestRow : OpenClaim := { program := "ytilmplaobpmdpaa", sum := "be71e71f8508e9b72151966b0787737093b18693e6a93c9c66fbc3782f99c202", func := "gridwork/gridworklaw27.BisectGreatest", spec := "bisectGreatest", inPlace := ["math.Float64frombits", "math.Float64bits"], unfollowed := true, recurses := true, apart := false }
def BisectGreatestSaid : Prop := bisectGreatestRow.holds Try.pinned (OpenSpec.ofChange bisectGreatestSpec)

/-- ITS FALSE NEIGHBOUR: 'it returns false'. Refute it at one input. -/
def bisectGreatestWrong : ChangeSpec := { name := "bisectGreatest", fn := fun _ => fun
  | [d1, d2, d3, d4] => { results := [.lit (.bool false)], args := [d1, d2, d3, d4] }
  | _ => none }
def BisectGreatestWrongFalsely : Prop := bisectGreatestRow.holds Try.pinned (OpenSpec.ofChange bisectGreatestWrong)

/-- 'gridworklaw27.BisectHalves': WHATEVER THE INPUT: true; the input reads as it did. -/
def bisectHalvesSpec : ChangeSpec := { name := "bisectHalves", fn := fun _ => fun
  | [d1, d2] => { results := [.lit (.bool true)], args := [d1, d2] }
  | _ => none }
def bisectHalvesRow : OpenClaim := { program := "ytilmplaobpmdpaa", sum := "be71e71f8508e9b72151966b0787737093b18693e6a93c9c66fbc3782f99c202", func := "gridwork/gridworklaw27.BisectHalves", spec := "bisectHalves", inPlace := ["math.Float64frombits", "math.Float64bits"], unfollowed := true, recurses := true, apart := false }
def BisectHalvesSaid : Prop := bisectHalvesRow.holds Try.pinned (OpenSpec.ofChange bisectHalvesSpec)

/-- ITS FALSE NEIGHBOUR: 'it returns false'. Refute it at one input. -/
def bisectHalvesWrong : ChangeSpec := { name := "bisectHalves", fn := fun _ => fun
  | [d1, d2] => { results := [.lit (.bool false)], args := [d1, d2] }
  | _ => none }
def BisectHalvesWrongFalsely : Prop := bisectHalvesRow.holds Try.pinned (OpenSpec.ofChange bisectHalvesWrong)

/-- 'gridworklaw27.BisectZero': WHATEVER THE INPUT: true; the input reads as it did. -/
def bisectZeroSpec : ChangeSpec := { name := "bisectZero", fn := fun _ => fun
  | [d1, d2, d3, d4] => { results := [.lit (.bool true)], args := [d1, d2, d3, d4] }
  | _ => none }
def bisectZeroRow : OpenClaim := { program := "ytilmplaobpmdpaa", sum := "be71e71f8508e9b72151966b0787737093b18693e6a93c9c66fbc3782f99c202", func := "gridwork/gridworklaw27.BisectZero", spec := "bisectZero", inPlace := ["math.Float64frombits", "math.Float64bits"], unfollowed := true, recurses := true, apart := false }
def BisectZeroSaid : Prop := bisectZeroRow.holds Try.pinned (OpenSpec.ofChange bisectZeroSpec)

/-- ITS FALSE NEIGHBOUR: 'it returns false'. Refute it at one input. -/
def bisectZeroWrong : ChangeSpec := { name := "bisectZero", fn := fun _ => fun
  | [d1, d2, d3, d4] => { results := [.lit (.bool false)], args := [d1, d2, d3, d4] }
  | _ => none }
def BisectZeroWrongFalsely : Prop := bisectZeroRow.holds Try.pinned (OpenSpec.ofChange bisectZeroWrong)

/-- 'gridworklaw27.BisectEnds': WHATEVER THE INPUT: true; the input reads as it did. -/
def bisectEndsSpec : ChangeSpec := { name := "bisectEnds", fn := fun _ => fun
  | [d1, d2, d3, d4] => { results := [.lit (.bool true)], args := [d1, d2, d3, d4] }
  | _ => none }
def bisectEndsRow : OpenClaim := { program := "ytilmplaobpmdpaa", sum := "be71e71f8508e9b72151966b0787737093b18693e6a93c9c66fbc3782f99c202", func := "gridwork/gridworklaw27.BisectEnds", spec := "bisectEnds", inPlace := ["math.Float64frombits", "math.Float64bits"], unfollowed := true, recurses := true, apart := false }
def BisectEndsSaid : Prop := bisectEndsRow.holds Try.pinned (OpenSpec.ofChange bisectEndsSpec)

/-- ITS FALSE NEIGHBOUR: 'it returns false'. Refute it at one input. -/
def bisectEndsWrong : ChangeSpec := { name := "bisectEnds", fn := fun _ => fun
  | [d1, d2, d3, d4] => { results := [.lit (.bool false)], args := [d1, d2, d3, d4] }
  | _ => none }
def BisectEndsWrongFalsely : Prop := bisectEndsRow.holds Try.pinned (OpenSpec.ofChange bisectEndsWrong)

/-- 'gridworklaw27.BisectTop': WHATEVER THE INPUT: true; the input reads as it did. -/
def bisectTopSpec : ChangeSpec := { name := "bisectTop", fn := fun _ => fun
  | [d1, d2, d3] => { results := [.lit (.bool true)], args := [d1, d2, d3] }
  | _ => none }
def bisectTopRow : OpenClaim := { program := "ytilmplaobpmdpaa", sum := "be71e71f8508e9b72151966b0787737093b18693e6a93c9c66fbc3782f99c202", func := "gridwork/gridworklaw27.BisectTop", spec := "bisectTop", inPlace := ["math.Float64frombits", "math.Float64bits"], unfollowed := true, recurses := true, apart := false }
def BisectTopSaid : Prop := bisectTopRow.holds Try.pinned (OpenSpec.ofChange bisectTopSpec)

/-- ITS FALSE NEIGHBOUR: 'it returns false'. Refute it at one input. -/
def bisectTopWrong : ChangeSpec := { name := "bisectTop", fn := fun _ => fun
  | [d1, d2, d3] => { results := [.lit (.bool false)], args := [d1, d2, d3] }
  | _ => none }
def BisectTopWrongFalsely : Prop := bisectTopRow.holds Try.pinned (OpenSpec.ofChange bisectTopWrong)

/-- 'gridworklaw27.BisectNames': WHATEVER THE INPUT: true; the input reads as it did. -/
def bisectNamesSpec : ChangeSpec := { name := "bisectNames", fn := fun _ => fun
  | [] => { results := [.lit (.bool true)], args := [] }
  | _ => none }
def bisectNamesRow : OpenClaim := { program := "ytilmplaobpmdpaa", sum := "be71e71f8508e9b72151966b0787737093b18693e6a93c9c66fbc3782f99c202", func := "gridwork/gridworklaw27.BisectNames", spec := "bisectNames", inPlace := ["math.Float64bits", "math.Float64frombits"], unfollowed := true, recurses := true, apart := false }
def BisectNamesSaid : Prop := bisectNamesRow.holds Try.pinned (OpenSpec.ofChange bisectNamesSpec)

/-- ITS FALSE NEIGHBOUR: 'it returns false'. Refute it at one input. -/
def bisectNamesWrong : ChangeSpec := { name := "bisectNames", fn := fun _ => fun
  | [] => { results := [.lit (.bool false)], args := [] }
  | _ => none }
def BisectNamesWrongFalsely : Prop := bisectNamesRow.holds Try.pinned (OpenSpec.ofChange bisectNamesWrong)

/- THE SECOND FORM. 'bulk': how many values and letters a reading holds, each counted each time it is reached (what is shared counts as often as it is met; a slice's spare places count too). A statement '..UptoSaid' is the law's where the arguments, and the package variables that the reading takes, are together of bulk at most 1048576: NARROWER than '..Said'. Prove '..Said' where nothing that the law and all that it calls make is longer than what came in: it says more and counts as full. Else prove '..UptoSaid'. A law counts once. -/
mutual
def uptoBulk {H : Type} : DataW H → Nat
  | .lit (.string bytes) => bytes.length + 1
  | .lit _ => 1
  | .nil => 1
  | .ptr d => uptoBulk d + 1
  | .slice elems spare => uptoBulkAll elems + uptoBulkAll spare + 1
  | .agg parts => uptoBulkAll parts + 1
  | .iface _ d => uptoBulk d + 1
  | .map entries => uptoBulkEntries entries + 1
  | .held _ => 1
def uptoBulkAll {H : Type} : List (DataW H) → Nat
  | [] => 0
  | d :: r => uptoBulk d + uptoBulkAll r
def uptoBulkEntries {H : Type} : List (Lit × DataW H) → Nat
  | [] => 0
  | x :: r => uptoBulkEntry x + uptoBulkEntries r
def uptoBulkEntry {H : Type} : Lit × DataW H → Nat
  | (.string bytes, d) => bytes.length + uptoBulk d + 1
  | (_, d) => uptoBulk d + 1
 end
def uptoSmall : (H : Type) → List (DataW H) → Bool := fun _ ds => decide (uptoBulkAll ds ≤ 1048576)
def OpenSpec.upto (s : _root_.Go.ChangeSpec) : _root_.Go.OpenSpec := { _root_.Go.OpenSpec.ofChange s with cond := some uptoSmall }

/-- 'gridworklaw27.BisectMiddle', WHERE WHAT IT READS IS OF BULK AT MOST 1048576: true; the input reads as it did. -/
def bisectMiddleUptoRow : OpenClaim := { program := "ytilmplaobpmdpaa", sum := "be71e71f8508e9b72151966b0787737093b18693e6a93c9c66fbc3782f99c202", func := "gridwork/gridworklaw27.BisectMiddle", spec := "bisectMiddle", inPlace := ["math.Float64frombits", "math.Float64bits"], apart := false, narrowed := true }
def BisectMiddleUptoSaid : Prop := bisectMiddleUptoRow.holds Try.pinned (OpenSpec.upto bisectMiddleSpec)

/-- 'gridworklaw27.BisectGreatest', WHERE WHAT IT READS IS OF BULK AT MOST 1048576: true; the input reads as it did. -/
def bisectGreatestUptoRow : OpenClaim := { program := "ytilmplaobpmdpaa", sum := "be71e71f8508e9b72151966b0787737093b18693e6a93c9c66fbc3782f99c202", func := "gridwork/gridworklaw27.BisectGreatest", spec := "bisectGreatest", inPlace := ["math.Float64frombits", "math.Float64bits"], unfollowed := true, recurses := true, apart := false, narrowed := true }
def BisectGreatestUptoSaid : Prop := bisectGreatestUptoRow.holds Try.pinned (OpenSpec.upto bisectGreatestSpec)

/-- 'gridworklaw27.BisectHalves', WHERE WHAT IT READS IS OF BULK AT MOST 1048576: true; the input reads as it did. -/
def bisectHalvesUptoRow : OpenClaim := { program := "ytilmplaobpmdpaa", sum := "be71e71f8508e9b72151966b0787737093b18693e6a93c9c66fbc3782f99c202", func := "gridwork/gridworklaw27.BisectHalves", spec := "bisectHalves", inPlace := ["math.Float64frombits", "math.Float64bits"], unfollowed := true, recurses := true, apart := false, narrowed := true }
def BisectHalvesUptoSaid : Prop := bisectHalvesUptoRow.holds Try.pinned (OpenSpec.upto bisectHalvesSpec)

/-- 'gridworklaw27.BisectZero', WHERE WHAT IT READS IS OF BULK AT MOST 1048576: true; the input reads as it did. -/
def bisectZeroUptoRow : OpenClaim := { program := "ytilmplaobpmdpaa", sum := "be71e71f8508e9b72151966b0787737093b18693e6a93c9c66fbc3782f99c202", func := "gridwork/gridworklaw27.BisectZero", spec := "bisectZero", inPlace := ["math.Float64frombits", "math.Float64bits"], unfollowed := true, recurses := true, apart := false, narrowed := true }
def BisectZeroUptoSaid : Prop := bisectZeroUptoRow.holds Try.pinned (OpenSpec.upto bisectZeroSpec)

/-- 'gridworklaw27.BisectEnds', WHERE WHAT IT READS IS OF BULK AT MOST 1048576: true; the input reads as it did. -/
def bisectEndsUptoRow : OpenClaim := { program := "ytilmplaobpmdpaa", sum := "be71e71f8508e9b72151966b0787737093b18693e6a93c9c66fbc3782f99c202", func := "gridwork/gridworklaw27.BisectEnds", spec := "bisectEnds", inPlace := ["math.Float64frombits", "math.Float64bits"], unfollowed := true, recurses := true, apart := false, narrowed := true }
def BisectEndsUptoSaid : Prop := bisectEndsUptoRow.holds Try.pinned (OpenSpec.upto bisectEndsSpec)

/-- 'gridworklaw27.BisectTop', WHERE WHAT IT READS IS OF BULK AT MOST 1048576: true; the input reads as it did. -/
def bisectTopUptoRow : OpenClaim := { program := "ytilmplaobpmdpaa", sum := "be71e71f8508e9b72151966b0787737093b18693e6a93c9c66fbc3782f99c202", func := "gridwork/gridworklaw27.BisectTop", spec := "bisectTop", inPlace := ["math.Float64frombits", "math.Float64bits"], unfollowed := true, recurses := true, apart := false, narrowed := true }
def BisectTopUptoSaid : Prop := bisectTopUptoRow.holds Try.pinned (OpenSpec.upto bisectTopSpec)

/-- 'gridworklaw27.BisectNames', WHERE WHAT IT READS IS OF BULK AT MOST 1048576: true; the input reads as it did. -/
def bisectNamesUptoRow : OpenClaim := { program := "ytilmplaobpmdpaa", sum := "be71e71f8508e9b72151966b0787737093b18693e6a93c9c66fbc3782f99c202", func := "gridwork/gridworklaw27.BisectNames", spec := "bisectNames", inPlace := ["math.Float64bits", "math.Float64frombits"], unfollowed := true, recurses := true, apart := false, narrowed := true }
def BisectNamesUptoSaid : Prop := bisectNamesUptoRow.holds Try.pinned (OpenSpec.upto bisectNamesSpec)

end Rows
end Go.Proofs.Ytilmplaobpmdpaa
