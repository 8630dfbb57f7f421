/-
  No cell of these rows narrows 'for every input' (looked for: loops, veiled, ifaces, maps, wideKeys, modest, calm, conditions, laid).
  DERIVED. THE GIVEN ROWS OF THIS SEAT. 6 by the template 'for every input the law returns true; each argument reads behind the call as it read before'; 0 by the template 'total and deterministic' (their statements: YtdagokpedjfepaaTotals.lean).
  GIVEN WITH THE SEED: the statements are not yours to turn. If you find one false, say at which input.
  Laid BY PROGRAM, IN A SANDBOX (cutbox-rows.mjs): the forced cells as the released guide's own fill.sh prints them over the translation bc0bb993b94aa59d… (all of the seat's roots in one cut). By AI agents, Wed Nov 11 2026. No macro, syntax, notation, axiom, sorry.
-/
import Derived.Test.YtdagokpedjfepaaChecked
import GoSem.Claim
import GoSem.ClaimJoined
import GoSem.ClaimMapViews
import Derived.JoinedTies
import Derived.KernelRfl
namespace Go.Proofs.Ytdagokpedjfepaa
/- THE CELL 'sum', in the pinned program and in every row, IS THE sha256 OF THE DUMP (.gsa) THAT YtdagokpedjfepaaProg.lean LOADS. Nothing in Lean hashes anything: it is a label: what it is worth is what the hold of that sum in a sandbox is worth. -/
noncomputable def Try.pinned : Pinned := { name := "ytdagokpedjfepaa", sum := "bc0bb993b94aa59dc52d8630aa4a0ca56022542383bb154891b5c61cefe46583", checked := Try.checked }
namespace Rows
def none {H : Type} : Left H := { results := [], args := [] }

/-- 'gridworklaw19.SourcePhasors': WHATEVER THE INPUT: true; the input reads as it did. -/
def sourcePhasorsSpec : ChangeSpec := { name := "sourcePhasors", fn := fun _ => fun
  | [d] => { results := [.lit (.bool true)], args := [d] }
  | _ => none }
def sourcePhasorsRow : OpenClaim := { program := "ytdagokpedjfepaa", sum := "bc0bb993b94aa59dc52d8630aa4a0ca56022542383bb154891b5c61cefe46583", func := "gridwork/gridworklaw19.SourcePhasors", spec := "sourcePhasors", inPlace := ["math.Float64frombits", "math.Float64bits"], apart := false }
def SourcePhasorsSaid : Prop := sourcePhasorsRow.holds Try.pinned (OpenSpec.ofChange sourcePhasorsSpec)

/-- ITS FALSE NEIGHBOUR: 'it returns false'. Refute it at one input. -/
def sourcePhasorsWrong : ChangeSpec := { name := "sourcePhasors", fn := fun _ => fun
  | [d] => { results := [.lit (.bool false)], args := [d] }
  | _ => none }
def SourcePhasorsWrongFalsely : Prop := sourcePhasorsRow.holds Try.pinned (OpenSpec.ofChange sourcePhasorsWrong)

/-- 'gridworklaw19.SourceSums': WHATEVER THE INPUT: true; the input reads as it did. -/
def sourceSumsSpec : ChangeSpec := { name := "sourceSums", fn := fun _ => fun
  | [d1, d2] => { results := [.lit (.bool true)], args := [d1, d2] }
  | _ => none }
def sourceSumsRow : OpenClaim := { program := "ytdagokpedjfepaa", sum := "bc0bb993b94aa59dc52d8630aa4a0ca56022542383bb154891b5c61cefe46583", func := "gridwork/gridworklaw19.SourceSums", spec := "sourceSums", inPlace := ["math.Float64bits", "math.Float64frombits"], unfollowed := true, recurses := true, apart := false }
def SourceSumsSaid : Prop := sourceSumsRow.holds Try.pinned (OpenSpec.ofChange sourceSumsSpec)

/-- ITS FALSE NEIGHBOUR: 'it returns false'. Refute it at one input. -/
def sourceSumsWrong : ChangeSpec := { name := "sourceSums", fn := fun _ => fun
  | [d1, d2] => { results := [.lit (.bool false)], args := [d1, d2] }
  | _ => none }
def SourceSumsWrongFalsely : Prop := sourceSumsRow.holds Try.pinned (OpenSpec.ofChange sourceSumsWrong)

/-- 'gridworklaw19.SourceRights': WHATEVER THE INPUT: true; the input reads as it did. -/
def sourceRightsSpec : ChangeSpec := { name := "sourceRights", fn := fun _ => fun
  | [d1, d2] => { results := [.lit (.bool true)], args := [d1, d2] }
  | _ => none }
def sourceRightsRow : OpenClaim := { program := "ytdagokpedjfepaa", sum := "bc0bb993b94aa59dc52d8630aa4a0ca56022542383bb154891b5c61cefe46583", func := "gridwork/gridworklaw19.SourceRights", spec := "sourceRights", inPlace := ["math.Float64frombits", "math.Float64bits"], unfollowed := true, recurses := true, apart := false }
def SourceRightsSaid : Prop := sourceRightsRow.holds Try.pinned (OpenSpec.ofChange sourceRightsSpec)

/-- ITS FALSE NEIGHBOUR: 'it returns false'. Refute it at one input. -/
def sourceRightsWrong : ChangeSpec := { name := "sourceRights", fn := fun _ => fun
  | [d1, d2] => { results := [.lit (.bool false)], args := [d1, d2] }
  | _ => none }
def SourceRightsWrongFalsely : Prop := sourceRightsRow.holds Try.pinned (OpenSpec.ofChange sourceRightsWrong)

/-- 'gridworklaw19.SourceNone': WHATEVER THE INPUT: true; the input reads as it did. -/
def sourceNoneSpec : ChangeSpec := { name := "sourceNone", fn := fun _ => fun
  | [d] => { results := [.lit (.bool true)], args := [d] }
  | _ => none }
def sourceNoneRow : OpenClaim := { program := "ytdagokpedjfepaa", sum := "bc0bb993b94aa59dc52d8630aa4a0ca56022542383bb154891b5c61cefe46583", func := "gridwork/gridworklaw19.SourceNone", spec := "sourceNone", inPlace := ["math.Float64bits", "math.Float64frombits"], unfollowed := true, recurses := true, apart := false }
def SourceNoneSaid : Prop := sourceNoneRow.holds Try.pinned (OpenSpec.ofChange sourceNoneSpec)

/-- ITS FALSE NEIGHBOUR: 'it returns false'. Refute it at one input. -/
def sourceNoneWrong : ChangeSpec := { name := "sourceNone", fn := fun _ => fun
  | [d] => { results := [.lit (.bool false)], args := [d] }
  | _ => none }
def SourceNoneWrongFalsely : Prop := sourceNoneRow.holds Try.pinned (OpenSpec.ofChange sourceNoneWrong)

/-- 'gridworklaw19.SourceKnown': WHATEVER THE INPUT: true; the input reads as it did. -/
def sourceKnownSpec : ChangeSpec := { name := "sourceKnown", fn := fun _ => fun
  | [] => { results := [.lit (.bool true)], args := [] }
  | _ => none }
def sourceKnownRow : OpenClaim := { program := "ytdagokpedjfepaa", sum := "bc0bb993b94aa59dc52d8630aa4a0ca56022542383bb154891b5c61cefe46583", func := "gridwork/gridworklaw19.SourceKnown", spec := "sourceKnown", inPlace := ["math.Float64bits", "math.Float64frombits"], unfollowed := true, recurses := true, apart := false }
def SourceKnownSaid : Prop := sourceKnownRow.holds Try.pinned (OpenSpec.ofChange sourceKnownSpec)

/-- ITS FALSE NEIGHBOUR: 'it returns false'. Refute it at one input. -/
def sourceKnownWrong : ChangeSpec := { name := "sourceKnown", fn := fun _ => fun
  | [] => { results := [.lit (.bool false)], args := [] }
  | _ => none }
def SourceKnownWrongFalsely : Prop := sourceKnownRow.holds Try.pinned (OpenSpec.ofChange sourceKnownWrong)

/-- 'gridworklaw19.SourceOpposite': WHATEVER THE INPUT: true; the input reads as it did. -/
def sourceOppositeSpec : ChangeSpec := { name := "sourceOpposite", fn := fun _ => fun
  | [d1, d2] => { results := [.lit (.bool true)], args := [d1, d2] }
  | _ => none }
def sourceOppositeRow : OpenClaim := { program := "ytdagokpedjfepaa", sum := "bc0bb993b94aa59dc52d8630aa4a0ca56022542383bb154891b5c61cefe46583", func := "gridwork/gridworklaw19.SourceOpposite", spec := "sourceOpposite", inPlace := ["math.Float64bits", "math.Float64frombits"], unfollowed := true, recurses := true, apart := false }
def SourceOppositeSaid : Prop := sourceOppositeRow.holds Try.pinned (OpenSpec.ofChange sourceOppositeSpec)

/-- ITS FALSE NEIGHBOUR: 'it returns false'. Refute it at one input. -/
def sourceOppositeWrong : ChangeSpec := { name := "sourceOpposite", fn := fun _ => fun
  | [d1, d2] => { results := [.lit (.bool false)], args := [d1, d2] }
  | _ => none }
def SourceOppositeWrongFalsely : Prop := sourceOppositeRow.holds Try.pinned (OpenSpec.ofChange sourceOppositeWrong)

/- THE SECOND FORM. 'bulk': how many values and letters a reading holds, each counted each time it is reached (what is shared counts as often as it is met; a slice's spare places count too). A statement '..UptoSaid' is the law's where the arguments, and the package variables that the reading takes, are together of bulk at most 1048576: NARROWER than '..Said'. Prove '..Said' where nothing that the law and all that it calls make is longer than what came in: it says more and counts as full. Else prove '..UptoSaid'. A law counts once. -/
mutual
def uptoBulk {H : Type} : DataW H → Nat
  | .lit (.string bytes) => bytes.length + 1
  | .lit _ => 1
  | .nil => 1
  | .ptr d => uptoBulk d + 1
  | .slice elems spare => uptoBulkAll elems + uptoBulkAll spare + 1
  | .agg parts => uptoBulkAll parts + 1
  | .iface _ d => uptoBulk d + 1
  | .map entries => uptoBulkEntries entries + 1
  | .held _ => 1
def uptoBulkAll {H : Type} : List (DataW H) → Nat
  | [] => 0
  | d :: r => uptoBulk d + uptoBulkAll r
def uptoBulkEntries {H : Type} : List (Lit × DataW H) → Nat
  | [] => 0
  | x :: r => uptoBulkEntry x + uptoBulkEntries r
def uptoBulkEntry {H : Type} : Lit × DataW H → Nat
  | (.string bytes, d) => bytes.length + uptoBulk d + 1
  | (_, d) => uptoBulk d + 1
 end
def uptoSmall : (H : Type) → List (DataW H) → Bool := fun _ ds => decide (uptoBulkAll ds ≤ 1048576)
def OpenSpec.upto (s : _root_.Go.ChangeSpec) : _root_.Go.OpenSpec := { _root_.Go.OpenSpec.ofChange s with cond := some uptoSmall }

/-- 'gridworklaw19.SourcePhasors', WHERE WHAT IT READS IS OF BULK AT MOST 1048576: true; the input reads as it did. -/
def sourcePhasorsUptoRow : OpenClaim := { program := "ytdagokpedjfepaa", sum := "bc0bb993b94aa59dc52d8630aa4a0ca56022542383bb154891b5c61cefe46583", func := "gridwork/gridworklaw19.SourcePhasors", spec := "sourcePhasors", inPlace := ["math.Float64frombits", "math.Float64bits"], apart := false, narrowed := true }
def SourcePhasorsUptoSaid : Prop := sourcePhasorsUptoRow.holds Try.pinned (OpenSpec.upto sourcePhasorsSpec)

/-- 'gridworklaw19.SourceSums', WHERE WHAT IT READS IS OF BULK AT MOST 1048576: true; the input reads as it did. -/
def sourceSumsUptoRow : OpenClaim := { program := "ytdagokpedjfepaa", sum := "bc0bb993b94aa59dc52d8630aa4a0ca56022542383bb154891b5c61cefe46583", func := "gridwork/gridworklaw19.SourceSums", spec := "sourceSums", inPlace := ["math.Float64bits", "math.Float64frombits"], unfollowed := true, recurses := true, apart := false, narrowed := true }
def SourceSumsUptoSaid : Prop := sourceSumsUptoRow.holds Try.pinned (OpenSpec.upto sourceSumsSpec)

/-- 'gridworklaw19.SourceRights', WHERE WHAT IT READS IS OF BULK AT MOST 1048576: true; the input reads as it did. -/
def sourceRightsUptoRow : OpenClaim := { program := "ytdagokpedjfepaa", sum := "bc0bb993b94aa59dc52d8630aa4a0ca56022542383bb154891b5c61cefe46583", func := "gridwork/gridworklaw19.SourceRights", spec := "sourceRights", inPlace := ["math.Float64frombits", "math.Float64bits"], unfollowed := true, recurses := true, apart := false, narrowed := true }
def SourceRightsUptoSaid : Prop := sourceRightsUptoRow.holds Try.pinned (OpenSpec.upto sourceRightsSpec)

/-- 'gridworklaw19.SourceNone', WHERE WHAT IT READS IS OF BULK AT MOST 1048576: true; the input reads as it did. -/
def sourceNoneUptoRow : OpenClaim := { program := "ytdagokpedjfepaa", sum := "bc0bb993b94aa59dc52d8630aa4a0ca56022542383bb154891b5c61cefe46583", func := "gridwork/gridworklaw19.SourceNone", spec := "sourceNone", inPlace := ["math.Float64bits", "math.Float64frombits"], unfollowed := true, recurses := true, apart := false, narrowed := true }
def SourceNoneUptoSaid : Prop := sourceNoneUptoRow.holds Try.pinned (OpenSpec.upto sourceNoneSpec)

/-- 'gridworklaw19.SourceKnown', WHERE WHAT IT READS IS OF BULK AT MOST 1048576: true; the input reads as it did. -/
def sourceKnownUptoRow : OpenClaim := { program := "ytdagokpedjfepaa", sum := "bc0bb993b94aa59dc52d8630aa4a0ca56022542383bb154891b5c61cefe46583", func := "gridwork/gridworklaw19.SourceKnown", spec := "sourceKnown", inPlace := ["math.Float64bits", "math.Float64frombits"], unfollowed := true, recurses := true, apart := false, narrowed := true }
def SourceKnownUptoSaid : Prop := sourceKnownUptoRow.holds Try.pinned (OpenSpec.upto sourceKnownSpec)

/-- 'gridworklaw19.SourceOpposite', WHERE WHAT IT READS IS OF BULK AT MOST 1048576: true; the input reads as it did. -/
def sourceOppositeUptoRow : OpenClaim := { program := "ytdagokpedjfepaa", sum := "bc0bb993b94aa59dc52d8630aa4a0ca56022542383bb154891b5c61cefe46583", func := "gridwork/gridworklaw19.SourceOpposite", spec := "sourceOpposite", inPlace := ["math.Float64bits", "math.Float64frombits"], unfollowed := true, recurses := true, apart := false, narrowed := true }
def SourceOppositeUptoSaid : Prop := sourceOppositeUptoRow.holds Try.pinned (OpenSpec.upto sourceOppositeSpec)

end Rows
end Go.Proofs.Ytdagokpedjfepaa
