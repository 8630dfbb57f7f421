/-
  No cell of these rows narrows 'for every input' (looked for: loops, veiled, ifaces, maps, wideKeys, modest, calm, conditions, laid).
  DERIVED. THE GIVEN ROWS OF THIS SEAT. 5 by the template 'for every input the law returns true; each argument reads behind the call as it read before'; 0 by the template 'total and deterministic' (their statements: YtmlcakchmkdggaaTotals.lean).
  GIVEN WITH THE SEED: the statements are not yours to turn. If you find one false, say at which input.
  Laid BY PROGRAM, IN A SANDBOX (cutbox-rows.mjs): the forced cells as the released guide's own fill.sh prints them over the translation c9f97da1d739e1c7… (all of the seat's roots in one cut). By AI agents, Wed Nov 11 2026. No macro, syntax, notation, axiom, sorry.
-/
import Derived.Test.YtmlcakchmkdggaaChecked
import GoSem.Claim
import GoSem.ClaimJoined
import GoSem.ClaimMapViews
import Derived.JoinedTies
import Derived.KernelRfl
namespace Go.Proofs.Ytmlcakchmkdggaa
/- THE CELL 'sum', in the pinned program and in every row, IS THE sha256 OF THE DUMP (.gsa) THAT YtmlcakchmkdggaaProg.lean LOADS. Nothing in Lean hashes anything: it is a label: what it is worth is what the hold of that sum in a sandbox is worth. -/
noncomputable def Try.pinned : Pinned := { name := "ytmlcakchmkdggaa", sum := "c9f97da1d739e1c7b83548971f8426e50f896861536c1e92a688886c457b325a", checked := Try.checked }
namespace Rows
def none {H : Type} : Left H := { results := [], args := [] }

/-- 'gridworklaw17.AdmitTwins': WHATEVER THE INPUT: true; the input reads as it did. -/
def admitTwinsSpec : ChangeSpec := { name := "admitTwins", fn := fun _ => fun
  | [d1, d2, d3] => { results := [.lit (.bool true)], args := [d1, d2, d3] }
  | _ => none }
def admitTwinsRow : OpenClaim := { program := "ytmlcakchmkdggaa", sum := "c9f97da1d739e1c7b83548971f8426e50f896861536c1e92a688886c457b325a", func := "gridwork/gridworklaw17.AdmitTwins", spec := "admitTwins", inPlace := ["math.Float64frombits", "math.Float64bits"], apart := false }
def AdmitTwinsSaid : Prop := admitTwinsRow.holds Try.pinned (OpenSpec.ofChange admitTwinsSpec)

/-- ITS FALSE NEIGHBOUR: 'it returns false'. Refute it at one input. -/
def admitTwinsWrong : ChangeSpec := { name := "admitTwins", fn := fun _ => fun
  | [d1, d2, d3] => { results := [.lit (.bool false)], args := [d1, d2, d3] }
  | _ => none }
def AdmitTwinsWrongFalsely : Prop := admitTwinsRow.holds Try.pinned (OpenSpec.ofChange admitTwinsWrong)

/-- 'gridworklaw17.AdmitCalls': WHATEVER THE INPUT: true; the input reads as it did. -/
def admitCallsSpec : ChangeSpec := { name := "admitCalls", fn := fun _ => fun
  | [d1, d2] => { results := [.lit (.bool true)], args := [d1, d2] }
  | _ => none }
def admitCallsRow : OpenClaim := { program := "ytmlcakchmkdggaa", sum := "c9f97da1d739e1c7b83548971f8426e50f896861536c1e92a688886c457b325a", func := "gridwork/gridworklaw17.AdmitCalls", spec := "admitCalls", inPlace := ["math.Float64frombits", "math.Float64bits"], apart := false }
def AdmitCallsSaid : Prop := admitCallsRow.holds Try.pinned (OpenSpec.ofChange admitCallsSpec)

/-- ITS FALSE NEIGHBOUR: 'it returns false'. Refute it at one input. -/
def admitCallsWrong : ChangeSpec := { name := "admitCalls", fn := fun _ => fun
  | [d1, d2] => { results := [.lit (.bool false)], args := [d1, d2] }
  | _ => none }
def AdmitCallsWrongFalsely : Prop := admitCallsRow.holds Try.pinned (OpenSpec.ofChange admitCallsWrong)

/-- 'gridworklaw17.AdmitHertz': WHATEVER THE INPUT: true; the input reads as it did. -/
def admitHertzSpec : ChangeSpec := { name := "admitHertz", fn := fun _ => fun
  | [d] => { results := [.lit (.bool true)], args := [d] }
  | _ => none }
def admitHertzRow : OpenClaim := { program := "ytmlcakchmkdggaa", sum := "c9f97da1d739e1c7b83548971f8426e50f896861536c1e92a688886c457b325a", func := "gridwork/gridworklaw17.AdmitHertz", spec := "admitHertz", inPlace := ["math.Float64frombits", "math.Float64bits"], apart := false }
def AdmitHertzSaid : Prop := admitHertzRow.holds Try.pinned (OpenSpec.ofChange admitHertzSpec)

/-- ITS FALSE NEIGHBOUR: 'it returns false'. Refute it at one input. -/
def admitHertzWrong : ChangeSpec := { name := "admitHertz", fn := fun _ => fun
  | [d] => { results := [.lit (.bool false)], args := [d] }
  | _ => none }
def AdmitHertzWrongFalsely : Prop := admitHertzRow.holds Try.pinned (OpenSpec.ofChange admitHertzWrong)

/-- 'gridworklaw17.AdmitNames': WHATEVER THE INPUT: true; the input reads as it did. -/
def admitNamesSpec : ChangeSpec := { name := "admitNames", fn := fun _ => fun
  | [] => { results := [.lit (.bool true)], args := [] }
  | _ => none }
def admitNamesRow : OpenClaim := { program := "ytmlcakchmkdggaa", sum := "c9f97da1d739e1c7b83548971f8426e50f896861536c1e92a688886c457b325a", func := "gridwork/gridworklaw17.AdmitNames", spec := "admitNames", inPlace := ["math.Float64bits", "math.Float64frombits"], apart := false }
def AdmitNamesSaid : Prop := admitNamesRow.holds Try.pinned (OpenSpec.ofChange admitNamesSpec)

/-- ITS FALSE NEIGHBOUR: 'it returns false'. Refute it at one input. -/
def admitNamesWrong : ChangeSpec := { name := "admitNames", fn := fun _ => fun
  | [] => { results := [.lit (.bool false)], args := [] }
  | _ => none }
def AdmitNamesWrongFalsely : Prop := admitNamesRow.holds Try.pinned (OpenSpec.ofChange admitNamesWrong)

/-- 'gridworklaw17.AdmitDoubles': WHATEVER THE INPUT: true; the input reads as it did. -/
def admitDoublesSpec : ChangeSpec := { name := "admitDoubles", fn := fun _ => fun
  | [d1, d2] => { results := [.lit (.bool true)], args := [d1, d2] }
  | _ => none }
def admitDoublesRow : OpenClaim := { program := "ytmlcakchmkdggaa", sum := "c9f97da1d739e1c7b83548971f8426e50f896861536c1e92a688886c457b325a", func := "gridwork/gridworklaw17.AdmitDoubles", spec := "admitDoubles", inPlace := ["math.Float64frombits", "math.Float64bits"], apart := false }
def AdmitDoublesSaid : Prop := admitDoublesRow.holds Try.pinned (OpenSpec.ofChange admitDoublesSpec)

/-- ITS FALSE NEIGHBOUR: 'it returns false'. Refute it at one input. -/
def admitDoublesWrong : ChangeSpec := { name := "admitDoubles", fn := fun _ => fun
  | [d1, d2] => { results := [.lit (.bool false)], args := [d1, d2] }
  | _ => none }
def AdmitDoublesWrongFalsely : Prop := admitDoublesRow.holds Try.pinned (OpenSpec.ofChange admitDoublesWrong)

/- THE SECOND FORM. 'bulk': how many values and letters a reading holds, each counted each time it is reached (what is shared counts as often as it is met; a slice's spare places count too). A statement '..UptoSaid' is the law's where the arguments, and the package variables that the reading takes, are together of bulk at most 1048576: NARROWER than '..Said'. Prove '..Said' where nothing that the law and all that it calls make is longer than what came in: it says more and counts as full. Else prove '..UptoSaid'. A law counts once. -/
mutual
def uptoBulk {H : Type} : DataW H → Nat
  | .lit (.string bytes) => bytes.length + 1
  | .lit _ => 1
  | .nil => 1
  | .ptr d => uptoBulk d + 1
  | .slice elems spare => uptoBulkAll elems + uptoBulkAll spare + 1
  | .agg parts => uptoBulkAll parts + 1
  | .iface _ d => uptoBulk d + 1
  | .map entries => uptoBulkEntries entries + 1
  | .held _ => 1
def uptoBulkAll {H : Type} : List (DataW H) → Nat
  | [] => 0
  | d :: r => uptoBulk d + uptoBulkAll r
def uptoBulkEntries {H : Type} : List (Lit × DataW H) → Nat
  | [] => 0
  | x :: r => uptoBulkEntry x + uptoBulkEntries r
def uptoBulkEntry {H : Type} : Lit × DataW H → Nat
  | (.string bytes, d) => bytes.length + uptoBulk d + 1
  | (_, d) => uptoBulk d + 1
 end
def uptoSmall : (H : Type) → List (DataW H) → Bool := fun _ ds => decide (uptoBulkAll ds ≤ 1048576)
def OpenSpec.upto (s : _root_.Go.ChangeSpec) : _root_.Go.OpenSpec := { _root_.Go.OpenSpec.ofChange s with cond := some uptoSmall }

/-- 'gridworklaw17.AdmitTwins', WHERE WHAT IT READS IS OF BULK AT MOST 1048576: true; the input reads as it did. -/
def admitTwinsUptoRow : OpenClaim := { program := "ytmlcakchmkdggaa", sum := "c9f97da1d739e1c7b83548971f8426e50f896861536c1e92a688886c457b325a", func := "gridwork/gridworklaw17.AdmitTwins", spec := "admitTwins", inPlace := ["math.Float64frombits", "math.Float64bits"], apart := false, narrowed := true }
def AdmitTwinsUptoSaid : Prop := admitTwinsUptoRow.holds Try.pinned (OpenSpec.upto admitTwinsSpec)

/-- 'gridworklaw17.AdmitCalls', WHERE WHAT IT READS IS OF BULK AT MOST 1048576: true; the input reads as it did. -/
def admitCallsUptoRow : OpenClaim := { program := "ytmlcakchmkdggaa", sum := "c9f97da1d739e1c7b83548971f8426e50f896861536c1e92a688886c457b325a", func := "gridwork/gridworklaw17.AdmitCalls", spec := "admitCalls", inPlace := ["math.Float64frombits", "math.Float64bits"], apart := false, narrowed := true }
def AdmitCallsUptoSaid : Prop := admitCallsUptoRow.holds Try.pinned (OpenSpec.upto admitCallsSpec)

/-- 'gridworklaw17.AdmitHertz', WHERE WHAT IT READS IS OF BULK AT MOST 1048576: true; the input reads as it did. -/
def admitHertzUptoRow : OpenClaim := { program := "ytmlcakchmkdggaa", sum := "c9f97da1d739e1c7b83548971f8426e50f896861536c1e92a688886c457b325a", func := "gridwork/gridworklaw17.AdmitHertz", spec := "admitHertz", inPlace := ["math.Float64frombits", "math.Float64bits"], apart := false, narrowed := true }
def AdmitHertzUptoSaid : Prop := admitHertzUptoRow.holds Try.pinned (OpenSpec.upto admitHertzSpec)

/-- 'gridworklaw17.AdmitNames', WHERE WHAT IT READS IS OF BULK AT MOST 1048576: true; the input reads as it did. -/
def admitNamesUptoRow : OpenClaim := { program := "ytmlcakchmkdggaa", sum := "c9f97da1d739e1c7b83548971f8426e50f896861536c1e92a688886c457b325a", func := "gridwork/gridworklaw17.AdmitNames", spec := "admitNames", inPlace := ["math.Float64bits", "math.Float64frombits"], apart := false, narrowed := true }
def AdmitNamesUptoSaid : Prop := admitNamesUptoRow.holds Try.pinned (OpenSpec.upto admitNamesSpec)

/-- 'gridworklaw17.AdmitDoubles', WHERE WHAT IT READS IS OF BULK AT MOST 1048576: true; the input reads as it did. -/
def admitDoublesUptoRow : OpenClaim := { program := "ytmlcakchmkdggaa", sum := "c9f97da1d739e1c7b83548971f8426e50f896861536c1e92a688886c457b325a", func := "gridwork/gridworklaw17.AdmitDoubles", spec := "admitDoubles", inPlace := ["math.Float64frombits", "math.Float64bits"], apart := false, narrowed := true }
def AdmitDoublesUptoSaid : Prop := admitDoublesUptoRow.holds Try.pinned (OpenSpec.upto admitDoublesSpec)

end Rows
end Go.Proofs.Ytmlcakchmkdggaa
