/-
  No cell of these rows narrows 'for every input' (looked for: loops, veiled, ifaces, maps, wideKeys, modest, calm, conditions, laid).
  DERIVED. THE GIVEN ROWS OF THIS SEAT. 7 by the template 'for every input the law returns true; each argument reads behind the call as it read before'; 0 by the template 'total and deterministic' (their statements: YtehhljcjdiokjaaTotals.lean).
  GIVEN WITH THE SEED: the statements are not yours to turn. If you find one false, say at which input.
  Laid BY PROGRAM, IN A SANDBOX (cutbox-rows.mjs): the forced cells as the released guide's own fill.sh prints them over the translation d63635289bc2bf6d… (all of the seat's roots in one cut). By AI agents, Wed Nov 11 2026. No macro, syntax, notation, axiom, sorry.
-/
import Derived.Test.YtehhljcjdiokjaaChecked
import GoSem.Claim
import GoSem.ClaimJoined
import GoSem.ClaimMapViews
import Derived.JoinedTies
import Derived.KernelRfl
namespace Go.Proofs.Ytehhljcjdiokjaa
/- THE CELL 'sum', in the pinned program and in every row, IS THE sha256 OF THE DUMP (.gsa) THAT YtehhljcjdiokjaaProg.lean LOADS. Nothing in Lean hashes anything: it is a label: what it is worth is what the hold of that sum in a sandbox is worth. -/
noncomputable def Try.pinned : Pinned := { name := "ytehhljcjdiokjaa", sum := "d63635289bc2bf6d0206a7930437c1f80349c454fcd96e2acda41330c778ab12", checked := Try.checked }
namespace Rows
def none {H : Type} : Left H := { results := [], args := [] }

/-- 'gridworklaw08.PivotChooses': WHATEVER THE INPUT: true; the input reads as it did. -/
def pivotChoosesSpec : ChangeSpec := { name := "pivotChooses", fn := fun _ => fun
  | [d1, d2] => { results := [.lit (.bool true)], args := [d1, d2] }
  | _ => none }
def pivotChoosesRow : OpenClaim := { program := "ytehhljcjdiokjaa", sum := "d63635289bc2bf6d0206a7930437c1f80349c454fcd96e2acda41330c778ab12", func := "gridwork/gridworklaw08.PivotChooses", spec := "pivotChooses", inPlace := ["math.Float64frombits", "math.Float64bits"], apart := false }
def PivotChoosesSaid : Prop := pivotChoosesRow.holds Try.pinned (OpenSpec.ofChange pivotChoosesSpec)

/-- ITS FALSE NEIGHBOUR: 'it returns false'. Refute it at one input. -/
def pivotChoosesWrong : ChangeSpec := { name := "pivotChooses", fn := fun _ => fun
  | [d1, d2] => { results := [.lit (.bool false)], args := [d1, d2] }
  | _ => none }
def PivotChoosesWrongFalsely : Prop := pivotChoosesRow.holds Try.pinned (OpenSpec.ofChange pivotChoosesWrong)

/-- 'gridworklaw08.PivotFirst': WHATEVER THE INPUT: true; the input reads as it did. -/
def pivotFirstSpec : ChangeSpec := { name := "pivotFirst", fn := fun _ => fun
  | [d1, d2] => { results := [.lit (.bool true)], args := [d1, d2] }
  | _ => none }
def pivotFirstRow : OpenClaim := { program := "ytehhljcjdiokjaa", sum := "d63635289bc2bf6d0206a7930437c1f80349c454fcd96e2acda41330c778ab12", func := "gridwork/gridworklaw08.PivotFirst", spec := "pivotFirst", inPlace := ["math.Float64frombits", "math.Float64bits"], apart := false }
def PivotFirstSaid : Prop := pivotFirstRow.holds Try.pinned (OpenSpec.ofChange pivotFirstSpec)

/-- ITS FALSE NEIGHBOUR: 'it returns false'. Refute it at one input. -/
def pivotFirstWrong : ChangeSpec := { name := "pivotFirst", fn := fun _ => fun
  | [d1, d2] => { results := [.lit (.bool false)], args := [d1, d2] }
  | _ => none }
def PivotFirstWrongFalsely : Prop := pivotFirstRow.holds Try.pinned (OpenSpec.ofChange pivotFirstWrong)

/-- 'gridworklaw08.PivotGrowths': WHATEVER THE INPUT: true; the input reads as it did. -/
def pivotGrowthsSpec : ChangeSpec := { name := "pivotGrowths", fn := fun _ => fun
  | [d1, d2] => { results := [.lit (.bool true)], args := [d1, d2] }
  | _ => none }
def pivotGrowthsRow : OpenClaim := { program := "ytehhljcjdiokjaa", sum := "d63635289bc2bf6d0206a7930437c1f80349c454fcd96e2acda41330c778ab12", func := "gridwork/gridworklaw08.PivotGrowths", spec := "pivotGrowths", inPlace := ["math.Float64frombits", "math.Float64bits"], apart := false }
def PivotGrowthsSaid : Prop := pivotGrowthsRow.holds Try.pinned (OpenSpec.ofChange pivotGrowthsSpec)

/-- ITS FALSE NEIGHBOUR: 'it returns false'. Refute it at one input. -/
def pivotGrowthsWrong : ChangeSpec := { name := "pivotGrowths", fn := fun _ => fun
  | [d1, d2] => { results := [.lit (.bool false)], args := [d1, d2] }
  | _ => none }
def PivotGrowthsWrongFalsely : Prop := pivotGrowthsRow.holds Try.pinned (OpenSpec.ofChange pivotGrowthsWrong)

/-- 'gridworklaw08.PivotSelf': WHATEVER THE INPUT: true; the input reads as it did. -/
def pivotSelfSpec : ChangeSpec := { name := "pivotSelf", fn := fun _ => fun
  | [d] => { results := [.lit (.bool true)], args := [d] }
  | _ => none }
def pivotSelfRow : OpenClaim := { program := "ytehhljcjdiokjaa", sum := "d63635289bc2bf6d0206a7930437c1f80349c454fcd96e2acda41330c778ab12", func := "gridwork/gridworklaw08.PivotSelf", spec := "pivotSelf", inPlace := ["math.Float64frombits", "math.Float64bits"], apart := false }
def PivotSelfSaid : Prop := pivotSelfRow.holds Try.pinned (OpenSpec.ofChange pivotSelfSpec)

/-- ITS FALSE NEIGHBOUR: 'it returns false'. Refute it at one input. -/
def pivotSelfWrong : ChangeSpec := { name := "pivotSelf", fn := fun _ => fun
  | [d] => { results := [.lit (.bool false)], args := [d] }
  | _ => none }
def PivotSelfWrongFalsely : Prop := pivotSelfRow.holds Try.pinned (OpenSpec.ofChange pivotSelfWrong)

/-- 'gridworklaw08.PivotOrders': WHATEVER THE INPUT: true; the input reads as it did. -/
def pivotOrdersSpec : ChangeSpec := { name := "pivotOrders", fn := fun _ => fun
  | [d1, d2, d3] => { results := [.lit (.bool true)], args := [d1, d2, d3] }
  | _ => none }
def pivotOrdersRow : OpenClaim := { program := "ytehhljcjdiokjaa", sum := "d63635289bc2bf6d0206a7930437c1f80349c454fcd96e2acda41330c778ab12", func := "gridwork/gridworklaw08.PivotOrders", spec := "pivotOrders", inPlace := ["math.Float64bits", "math.Float64frombits"], apart := false }
def PivotOrdersSaid : Prop := pivotOrdersRow.holds Try.pinned (OpenSpec.ofChange pivotOrdersSpec)

/-- ITS FALSE NEIGHBOUR: 'it returns false'. Refute it at one input. -/
def pivotOrdersWrong : ChangeSpec := { name := "pivotOrders", fn := fun _ => fun
  | [d1, d2, d3] => { results := [.lit (.bool false)], args := [d1, d2, d3] }
  | _ => none }
def PivotOrdersWrongFalsely : Prop := pivotOrdersRow.holds Try.pinned (OpenSpec.ofChange pivotOrdersWrong)

/-- 'gridworklaw08.PivotTurns': WHATEVER THE INPUT: true; the input reads as it did. -/
def pivotTurnsSpec : ChangeSpec := { name := "pivotTurns", fn := fun _ => fun
  | [d1, d2] => { results := [.lit (.bool true)], args := [d1, d2] }
  | _ => none }
def pivotTurnsRow : OpenClaim := { program := "ytehhljcjdiokjaa", sum := "d63635289bc2bf6d0206a7930437c1f80349c454fcd96e2acda41330c778ab12", func := "gridwork/gridworklaw08.PivotTurns", spec := "pivotTurns", inPlace := ["math.Float64bits", "math.Float64frombits"], apart := false }
def PivotTurnsSaid : Prop := pivotTurnsRow.holds Try.pinned (OpenSpec.ofChange pivotTurnsSpec)

/-- ITS FALSE NEIGHBOUR: 'it returns false'. Refute it at one input. -/
def pivotTurnsWrong : ChangeSpec := { name := "pivotTurns", fn := fun _ => fun
  | [d1, d2] => { results := [.lit (.bool false)], args := [d1, d2] }
  | _ => none }
def PivotTurnsWrongFalsely : Prop := pivotTurnsRow.holds Try.pinned (OpenSpec.ofChange pivotTurnsWrong)

/-- 'gridworklaw08.PivotNames': WHATEVER THE INPUT: true; the input reads as it did. -/
def pivotNamesSpec : ChangeSpec := { name := "pivotNames", fn := fun _ => fun
  | [] => { results := [.lit (.bool true)], args := [] }
  | _ => none }
def pivotNamesRow : OpenClaim := { program := "ytehhljcjdiokjaa", sum := "d63635289bc2bf6d0206a7930437c1f80349c454fcd96e2acda41330c778ab12", func := "gridwork/gridworklaw08.PivotNames", spec := "pivotNames", inPlace := ["math.Float64frombits", "math.Float64bits"], apart := false }
def PivotNamesSaid : Prop := pivotNamesRow.holds Try.pinned (OpenSpec.ofChange pivotNamesSpec)

/-- ITS FALSE NEIGHBOUR: 'it returns false'. Refute it at one input. -/
def pivotNamesWrong : ChangeSpec := { name := "pivotNames", fn := fun _ => fun
  | [] => { results := [.lit (.bool false)], args := [] }
  | _ => none }
def PivotNamesWrongFalsely : Prop := pivotNamesRow.holds Try.pinned (OpenSpec.ofChange pivotNamesWrong)

/- THE SECOND FORM. 'bulk': how many values and letters a reading holds, each counted each time it is reached (what is shared counts as often as it is met; a slice's spare places count too). A statement '..UptoSaid' is the law's where the arguments, and the package variables that the reading takes, are together of bulk at most 1048576: NARROWER than '..Said'. Prove '..Said' where nothing that the law and all that it calls make is longer than what came in: it says more and counts as full. Else prove '..UptoSaid'. A law counts once. -/
mutual
def uptoBulk {H : Type} : DataW H → Nat
  | .lit (.string bytes) => bytes.length + 1
  | .lit _ => 1
  | .nil => 1
  | .ptr d => uptoBulk d + 1
  | .slice elems spare => uptoBulkAll elems + uptoBulkAll spare + 1
  | .agg parts => uptoBulkAll parts + 1
  | .iface _ d => uptoBulk d + 1
  | .map entries => uptoBulkEntries entries + 1
  | .held _ => 1
def uptoBulkAll {H : Type} : List (DataW H) → Nat
  | [] => 0
  | d :: r => uptoBulk d + uptoBulkAll r
def uptoBulkEntries {H : Type} : List (Lit × DataW H) → Nat
  | [] => 0
  | x :: r => uptoBulkEntry x + uptoBulkEntries r
def uptoBulkEntry {H : Type} : Lit × DataW H → Nat
  | (.string bytes, d) => bytes.length + uptoBulk d + 1
  | (_, d) => uptoBulk d + 1
 end
def uptoSmall : (H : Type) → List (DataW H) → Bool := fun _ ds => decide (uptoBulkAll ds ≤ 1048576)
def OpenSpec.upto (s : _root_.Go.ChangeSpec) : _root_.Go.OpenSpec := { _root_.Go.OpenSpec.ofChange s with cond := some uptoSmall }

/-- 'gridworklaw08.PivotChooses', WHERE WHAT IT READS IS OF BULK AT MOST 1048576: true; the input reads as it did. -/
def pivotChoosesUptoRow : OpenClaim := { program := "ytehhljcjdiokjaa", sum := "d63635289bc2bf6d0206a7930437c1f80349c454fcd96e2acda41330c778ab12", func := "gridwork/gridworklaw08.PivotChooses", spec := "pivotChooses", inPlace := ["math.Float64frombits", "math.Float64bits"], apart := false, narrowed := true }
def PivotChoosesUptoSaid : Prop := pivotChoosesUptoRow.holds Try.pinned (OpenSpec.upto pivotChoosesSpec)

/-- 'gridworklaw08.PivotFirst', WHERE WHAT IT READS IS OF BULK AT MOST 1048576: true; the input reads as it did. -/
def pivotFirstUptoRow : OpenClaim := { program := "ytehhljcjdiokjaa", sum := "d63635289bc2bf6d0206a7930437c1f80349c454fcd96e2acda41330c778ab12", func := "gridwork/gridworklaw08.PivotFirst", spec := "pivotFirst", inPlace := ["math.Float64frombits", "math.Float64bits"], apart := false, narrowed := true }
def PivotFirstUptoSaid : Prop := pivotFirstUptoRow.holds Try.pinned (OpenSpec.upto pivotFirstSpec)

/-- 'gridworklaw08.PivotGrowths', WHERE WHAT IT READS IS OF BULK AT MOST 1048576: true; the input reads as it did. -/
def pivotGrowthsUptoRow : OpenClaim := { program := "ytehhljcjdiokjaa", sum := "d63635289bc2bf6d0206a7930437c1f80349c454fcd96e2acda41330c778ab12", func := "gridwork/gridworklaw08.PivotGrowths", spec := "pivotGrowths", inPlace := ["math.Float64frombits", "math.Float64bits"], apart := false, narrowed := true }
def PivotGrowthsUptoSaid : Prop := pivotGrowthsUptoRow.holds Try.pinned (OpenSpec.upto pivotGrowthsSpec)

/-- 'gridworklaw08.PivotSelf', WHERE WHAT IT READS IS OF BULK AT MOST 1048576: true; the input reads as it did. -/
def pivotSelfUptoRow : OpenClaim := { program := "ytehhljcjdiokjaa", sum := "d63635289bc2bf6d0206a7930437c1f80349c454fcd96e2acda41330c778ab12", func := "gridwork/gridworklaw08.PivotSelf", spec := "pivotSelf", inPlace := ["math.Float64frombits", "math.Float64bits"], apart := false, narrowed := true }
def PivotSelfUptoSaid : Prop := pivotSelfUptoRow.holds Try.pinned (OpenSpec.upto pivotSelfSpec)

/-- 'gridworklaw08.PivotOrders', WHERE WHAT IT READS IS OF BULK AT MOST 1048576: true; the input reads as it did. -/
def pivotOrdersUptoRow : OpenClaim := { program := "ytehhljcjdiokjaa", sum := "d63635289bc2bf6d0206a7930437c1f80349c454fcd96e2acda41330c778ab12", func := "gridwork/gridworklaw08.PivotOrders", spec := "pivotOrders", inPlace := ["math.Float64bits", "math.Float64frombits"], apart := false, narrowed := true }
def PivotOrdersUptoSaid : Prop := pivotOrdersUptoRow.holds Try.pinned (OpenSpec.upto pivotOrdersSpec)

/-- 'gridworklaw08.PivotTurns', WHERE WHAT IT READS IS OF BULK AT MOST 1048576: true; the input reads as it did. -/
def pivotTurnsUptoRow : OpenClaim := { program := "ytehhljcjdiokjaa", sum := "d63635289bc2bf6d0206a7930437c1f80349c454fcd96e2acda41330c778ab12", func := "gridwork/gridworklaw08.PivotTurns", spec := "pivotTurns", inPlace := ["math.Float64bits", "math.Float64frombits"], apart := false, narrowed := true }
def PivotTurnsUptoSaid : Prop := pivotTurnsUptoRow.holds Try.pinned (OpenSpec.upto pivotTurnsSpec)

/-- 'gridworklaw08.PivotNames', WHERE WHAT IT READS IS OF BULK AT MOST 1048576: true; the input reads as it did. -/
def pivotNamesUptoRow : OpenClaim := { program := "ytehhljcjdiokjaa", sum := "d63635289bc2bf6d0206a7930437c1f80349c454fcd96e2acda41330c778ab12", func := "gridwork/gridworklaw08.PivotNames", spec := "pivotNames", inPlace := ["math.Float64frombits", "math.Float64bits"], apart := false, narrowed := true }
def PivotNamesUptoSaid : Prop := pivotNamesUptoRow.holds Try.pinned (OpenSpec.upto pivotNamesSpec)

end Rows
end Go.Proofs.Ytehhljcjdiokjaa
