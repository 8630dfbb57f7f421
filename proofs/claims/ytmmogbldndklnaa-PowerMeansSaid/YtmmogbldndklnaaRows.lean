/-
  No cell of these rows narrows 'for every input' (looked for: loops, veiled, ifaces, maps, wideKeys, modest, calm, conditions, laid).
  DERIVED. THE GIVEN ROWS OF THIS SEAT. 4 by the template 'for every input the law returns true; each argument reads behind the call as it read before'; 0 by the template 'total and deterministic' (their statements: YtmmogbldndklnaaTotals.lean).
  GIVEN WITH THE SEED: the statements are not yours to turn. If you find one false, say at which input.
  Laid BY PROGRAM, IN A SANDBOX (cutbox-rows.mjs): the forced cells as the released guide's own fill.sh prints them over the translation 1916a3bb91b29dea… (all of the seat's roots in one cut). By AI agents, Wed Nov 11 2026. No macro, syntax, notation, axiom, sorry.
-/
import Derived.Test.YtmmogbldndklnaaChecked
import GoSem.Claim
import GoSem.ClaimJoined
import GoSem.ClaimMapViews
import Derived.JoinedTies
import Derived.KernelRfl
namespace Go.Proofs.Ytmmogbldndklnaa
/- THE CELL 'sum', in the pinned program and in every row, IS THE sha256 OF THE DUMP (.gsa) THAT YtmmogbldndklnaaProg.lean LOADS. Nothing in Lean hashes anything: it is a label: what it is worth is what the hold of that sum in a sandbox is worth. -/
noncomputable def Try.pinned : Pinned := { name := "ytmmogbldndklnaa", sum := "1916a3bb91b29dea746383248211e585c5de63d928e7e6377ab257a47ce5a0a9", checked := Try.checked }
namespace Rows
def none {H : Type} : Left H := { results := [], args := [] }

/-- 'gridworklaw22.PowerMeans': WHATEVER THE INPUT: true; the input reads as it did. -/
def powerMeansSpec : ChangeSpec := { name := "powerMeans", fn := fun _ => fun
  | [d1, d2, d3] => { results := [.lit (.bool true)], args := [d1, d2, d3] }
  | _ => none }
def powerMeansRow : OpenClaim := { program := "ytmmogbldndklnaa", sum := "1916a3bb91b29dea746383248211e585c5de63d928e7e6377ab257a47ce5a0a9", func := "gridwork/gridworklaw22.PowerMeans", spec := "powerMeans", inPlace := ["math.Float64bits", "math.Float64frombits"], unfollowed := true, recurses := true, apart := false }
def PowerMeansSaid : Prop := powerMeansRow.holds Try.pinned (OpenSpec.ofChange powerMeansSpec)

/-- ITS FALSE NEIGHBOUR: 'it returns false'. Refute it at one input. -/
def powerMeansWrong : ChangeSpec := { name := "powerMeans", fn := fun _ => fun
  | [d1, d2, d3] => { results := [.lit (.bool false)], args := [d1, d2, d3] }
  | _ => none }
def PowerMeansWrongFalsely : Prop := powerMeansRow.holds Try.pinned (OpenSpec.ofChange powerMeansWrong)

/-- 'gridworklaw22.PowerSums': WHATEVER THE INPUT: true; the input reads as it did. -/
def powerSumsSpec : ChangeSpec := { name := "powerSums", fn := fun _ => fun
  | [d1, d2] => { results := [.lit (.bool true)], args := [d1, d2] }
  | _ => none }
def powerSumsRow : OpenClaim := { program := "ytmmogbldndklnaa", sum := "1916a3bb91b29dea746383248211e585c5de63d928e7e6377ab257a47ce5a0a9", func := "gridwork/gridworklaw22.PowerSums", spec := "powerSums", inPlace := ["math.Float64bits", "math.Float64frombits"], unfollowed := true, recurses := true, apart := false }
def PowerSumsSaid : Prop := powerSumsRow.holds Try.pinned (OpenSpec.ofChange powerSumsSpec)

/-- ITS FALSE NEIGHBOUR: 'it returns false'. Refute it at one input. -/
def powerSumsWrong : ChangeSpec := { name := "powerSums", fn := fun _ => fun
  | [d1, d2] => { results := [.lit (.bool false)], args := [d1, d2] }
  | _ => none }
def PowerSumsWrongFalsely : Prop := powerSumsRow.holds Try.pinned (OpenSpec.ofChange powerSumsWrong)

/-- 'gridworklaw22.PowerNone': WHATEVER THE INPUT: true; the input reads as it did. -/
def powerNoneSpec : ChangeSpec := { name := "powerNone", fn := fun _ => fun
  | [d1, d2] => { results := [.lit (.bool true)], args := [d1, d2] }
  | _ => none }
def powerNoneRow : OpenClaim := { program := "ytmmogbldndklnaa", sum := "1916a3bb91b29dea746383248211e585c5de63d928e7e6377ab257a47ce5a0a9", func := "gridwork/gridworklaw22.PowerNone", spec := "powerNone", inPlace := ["math.Float64frombits", "math.Float64bits"], unfollowed := true, recurses := true, apart := false }
def PowerNoneSaid : Prop := powerNoneRow.holds Try.pinned (OpenSpec.ofChange powerNoneSpec)

/-- ITS FALSE NEIGHBOUR: 'it returns false'. Refute it at one input. -/
def powerNoneWrong : ChangeSpec := { name := "powerNone", fn := fun _ => fun
  | [d1, d2] => { results := [.lit (.bool false)], args := [d1, d2] }
  | _ => none }
def PowerNoneWrongFalsely : Prop := powerNoneRow.holds Try.pinned (OpenSpec.ofChange powerNoneWrong)

/-- 'gridworklaw22.PowerKnown': WHATEVER THE INPUT: true; the input reads as it did. -/
def powerKnownSpec : ChangeSpec := { name := "powerKnown", fn := fun _ => fun
  | [] => { results := [.lit (.bool true)], args := [] }
  | _ => none }
def powerKnownRow : OpenClaim := { program := "ytmmogbldndklnaa", sum := "1916a3bb91b29dea746383248211e585c5de63d928e7e6377ab257a47ce5a0a9", func := "gridwork/gridworklaw22.PowerKnown", spec := "powerKnown", inPlace := ["math.Float64bits", "math.Float64frombits"], unfollowed := true, recurses := true, apart := false }
def PowerKnownSaid : Prop := powerKnownRow.holds Try.pinned (OpenSpec.ofChange powerKnownSpec)

/-- ITS FALSE NEIGHBOUR: 'it returns false'. Refute it at one input. -/
def powerKnownWrong : ChangeSpec := { name := "powerKnown", fn := fun _ => fun
  | [] => { results := [.lit (.bool false)], args := [] }
  | _ => none }
def PowerKnownWrongFalsely : Prop := powerKnownRow.holds Try.pinned (OpenSpec.ofChange powerKnownWrong)

/- THE SECOND FORM. 'bulk': how many values and letters a reading holds, each counted each time it is reached (what is shared counts as often as it is met; a slice's spare places count too). A statement '..UptoSaid' is the law's where the arguments, and the package variables that the reading takes, are together of bulk at most 1048576: NARROWER than '..Said'. Prove '..Said' where nothing that the law and all that it calls make is longer than what came in: it says more and counts as full. Else prove '..UptoSaid'. A law counts once. -/
mutual
def uptoBulk {H : Type} : DataW H → Nat
  | .lit (.string bytes) => bytes.length + 1
  | .lit _ => 1
  | .nil => 1
  | .ptr d => uptoBulk d + 1
  | .slice elems spare => uptoBulkAll elems + uptoBulkAll spare + 1
  | .agg parts => uptoBulkAll parts + 1
  | .iface _ d => uptoBulk d + 1
  | .map entries => uptoBulkEntries entries + 1
  | .held _ => 1
def uptoBulkAll {H : Type} : List (DataW H) → Nat
  | [] => 0
  | d :: r => uptoBulk d + uptoBulkAll r
def uptoBulkEntries {H : Type} : List (Lit × DataW H) → Nat
  | [] => 0
  | x :: r => uptoBulkEntry x + uptoBulkEntries r
def uptoBulkEntry {H : Type} : Lit × DataW H → Nat
  | (.string bytes, d) => bytes.length + uptoBulk d + 1
  | (_, d) => uptoBulk d + 1
 end
def uptoSmall : (H : Type) → List (DataW H) → Bool := fun _ ds => decide (uptoBulkAll ds ≤ 1048576)
def OpenSpec.upto (s : _root_.Go.ChangeSpec) : _root_.Go.OpenSpec := { _root_.Go.OpenSpec.ofChange s with cond := some uptoSmall }

/-- 'gridworklaw22.PowerMeans', WHERE WHAT IT READS IS OF BULK AT MOST 1048576: true; the input reads as it did. -/
def powerMeansUptoRow : OpenClaim := { program := "ytmmogbldndklnaa", sum := "1916a3bb91b29dea746383248211e585c5de63d928e7e6377ab257a47ce5a0a9", func := "gridwork/gridworklaw22.PowerMeans", spec := "powerMeans", inPlace := ["math.Float64bits", "math.Float64frombits"], unfollowed := true, recurses := true, apart := false, narrowed := true }
def PowerMeansUptoSaid : Prop := powerMeansUptoRow.holds Try.pinned (OpenSpec.upto powerMeansSpec)

/-- 'gridworklaw22.PowerSums', WHERE WHAT IT READS IS OF BULK AT MOST 1048576: true; the input reads as it did. -/
def powerSumsUptoRow : OpenClaim := { program := "ytmmogbldndklnaa", sum := "1916a3bb91b29dea746383248211e585c5de63d928e7e6377ab257a47ce5a0a9", func := "gridwork/gridworklaw22.PowerSums", spec := "powerSums", inPlace := ["math.Float64bits", "math.Float64frombits"], unfollowed := true, recurses := true, apart := false, narrowed := true }
def PowerSumsUptoSaid : Prop := powerSumsUptoRow.holds Try.pinned (OpenSpec.upto powerSumsSpec)

/-- 'gridworklaw22.PowerNone', WHERE WHAT IT READS IS OF BULK AT MOST 1048576: true; the input reads as it did. -/
def powerNoneUptoRow : OpenClaim := { program := "ytmmogbldndklnaa", sum := "1916a3bb91b29dea746383248211e585c5de63d928e7e6377ab257a47ce5a0a9", func := "gridwork/gridworklaw22.PowerNone", spec := "powerNone", inPlace := ["math.Float64frombits", "math.Float64bits"], unfollowed := true, recurses := true, apart := false, narrowed := true }
def PowerNoneUptoSaid : Prop := powerNoneUptoRow.holds Try.pinned (OpenSpec.upto powerNoneSpec)

/-- 'gridworklaw22.PowerKnown', WHERE WHAT IT READS IS OF BULK AT MOST 1048576: true; the input reads as it did. -/
def powerKnownUptoRow : OpenClaim := { program := "ytmmogbldndklnaa", sum := "1916a3bb91b29dea746383248211e585c5de63d928e7e6377ab257a47ce5a0a9", func := "gridwork/gridworklaw22.PowerKnown", spec := "powerKnown", inPlace := ["math.Float64bits", "math.Float64frombits"], unfollowed := true, recurses := true, apart := false, narrowed := true }
def PowerKnownUptoSaid : Prop := powerKnownUptoRow.holds Try.pinned (OpenSpec.upto powerKnownSpec)

end Rows
end Go.Proofs.Ytmmogbldndklnaa
