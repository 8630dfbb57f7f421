/-
  No cell of these rows narrows 'for every input' (looked for: loops, veiled, ifaces, maps, wideKeys, modest, calm, conditions, laid).
  DERIVED. THE GIVEN ROWS OF THIS SEAT. 7 by the template 'for every input the law returns true; each argument reads behind the call as it read before'; 0 by the template 'total and deterministic' (their statements: YteggchdkjamdmaaGreatTotals.lean).
  GIVEN WITH THE SEED: the statements are not yours to turn. If you find one false, say at which input.
  Laid BY PROGRAM, IN A SANDBOX (cutbox-rows.mjs): the forced cells as the released guide's own fill.sh prints them over the translation 670d5196e9be01e2… (all of the seat's roots in one cut). By AI agents, Wed Nov 11 2026. No macro, syntax, notation, axiom, sorry.
-/
import Derived.Test.YteggchdkjamdmaaGreatChecked
import GoSem.Claim
import GoSem.ClaimJoined
import GoSem.ClaimMapViews
import Derived.JoinedTies
import Derived.KernelRfl
namespace Go.Proofs.YteggchdkjamdmaaGreat
/- THE CELL 'sum', in the pinned program and in every row, IS THE sha256 OF THE DUMP (.gsa) THAT YteggchdkjamdmaaGreatProg.lean LOADS. Nothing in Lean hashes anything: it is a label: what it is worth is what the hold of that sum in a sandbox is worth. -/
noncomputable def Tryz.pinned : Pinned := { name := "yteggchdkjamdmaagreat", sum := "670d5196e9be01e2d901fdd4d0c9a5d079cdb8c2a96d09ebb44e2f6245f9dcfc", checked := Tryz.checked }
namespace Rows
def none {H : Type} : Left H := { results := [], args := [] }

/-- 'gridworktop.TopFound': WHATEVER THE INPUT: true; the input reads as it did. -/
def topFoundSpec : ChangeSpec := { name := "topFound", fn := fun _ => fun
  | [d1, d2, d3, d4] => { results := [.lit (.bool true)], args := [d1, d2, d3, d4] }
  | _ => none }
def topFoundRow : OpenClaim := { program := "yteggchdkjamdmaagreat", sum := "670d5196e9be01e2d901fdd4d0c9a5d079cdb8c2a96d09ebb44e2f6245f9dcfc", func := "gridwork/gridworktop.TopFound", spec := "topFound", inPlace := ["math.Float64bits", "math.Float64frombits"], unfollowed := true, recurses := true, apart := false }
def TopFoundSaid : Prop := topFoundRow.holds Tryz.pinned (OpenSpec.ofChange topFoundSpec)

/-- ITS FALSE NEIGHBOUR: 'it returns false'. Refute it at one input. -/
def topFoundWrong : ChangeSpec := { name := "topFound", fn := fun _ => fun
  | [d1, d2, d3, d4] => { results := [.lit (.bool false)], args := [d1, d2, d3, d4] }
  | _ => none }
def TopFoundWrongFalsely : Prop := topFoundRow.holds Tryz.pinned (OpenSpec.ofChange topFoundWrong)

/-- 'gridworklaw28.ResonanceQuiet': WHATEVER THE INPUT: true; the input reads as it did. -/
def resonanceQuietSpec : ChangeSpec := { name := "resonanceQuiet", fn := fun _ => fun
  | [d1, d2, d3] => { results := [.lit (.bool true)], args := [d1, d2, d3] }
  | _ => none }
def resonanceQuietRow : OpenClaim := { program := "yteggchdkjamdmaagreat", sum := "670d5196e9be01e2d901fdd4d0c9a5d079cdb8c2a96d09ebb44e2f6245f9dcfc", func := "gridwork/gridworklaw28.ResonanceQuiet", spec := "resonanceQuiet", inPlace := ["math.Float64bits", "math.Float64frombits"], unfollowed := true, recurses := true, apart := false }
def ResonanceQuietSaid : Prop := resonanceQuietRow.holds Tryz.pinned (OpenSpec.ofChange resonanceQuietSpec)

/-- ITS FALSE NEIGHBOUR: 'it returns false'. Refute it at one input. -/
def resonanceQuietWrong : ChangeSpec := { name := "resonanceQuiet", fn := fun _ => fun
  | [d1, d2, d3] => { results := [.lit (.bool false)], args := [d1, d2, d3] }
  | _ => none }
def ResonanceQuietWrongFalsely : Prop := resonanceQuietRow.holds Tryz.pinned (OpenSpec.ofChange resonanceQuietWrong)

/-- 'gridworklaw28.ResonanceBetween': WHATEVER THE INPUT: true; the input reads as it did. -/
def resonanceBetweenSpec : ChangeSpec := { name := "resonanceBetween", fn := fun _ => fun
  | [d1, d2] => { results := [.lit (.bool true)], args := [d1, d2] }
  | _ => none }
def resonanceBetweenRow : OpenClaim := { program := "yteggchdkjamdmaagreat", sum := "670d5196e9be01e2d901fdd4d0c9a5d079cdb8c2a96d09ebb44e2f6245f9dcfc", func := "gridwork/gridworklaw28.ResonanceBetween", spec := "resonanceBetween", inPlace := ["math.Float64bits", "math.Float64frombits"], unfollowed := true, recurses := true, apart := false }
def ResonanceBetweenSaid : Prop := resonanceBetweenRow.holds Tryz.pinned (OpenSpec.ofChange resonanceBetweenSpec)

/-- ITS FALSE NEIGHBOUR: 'it returns false'. Refute it at one input. -/
def resonanceBetweenWrong : ChangeSpec := { name := "resonanceBetween", fn := fun _ => fun
  | [d1, d2] => { results := [.lit (.bool false)], args := [d1, d2] }
  | _ => none }
def ResonanceBetweenWrongFalsely : Prop := resonanceBetweenRow.holds Tryz.pinned (OpenSpec.ofChange resonanceBetweenWrong)

/-- 'gridworklaw28.ResonanceAll': WHATEVER THE INPUT: true; the input reads as it did. -/
def resonanceAllSpec : ChangeSpec := { name := "resonanceAll", fn := fun _ => fun
  | [d1, d2] => { results := [.lit (.bool true)], args := [d1, d2] }
  | _ => none }
def resonanceAllRow : OpenClaim := { program := "yteggchdkjamdmaagreat", sum := "670d5196e9be01e2d901fdd4d0c9a5d079cdb8c2a96d09ebb44e2f6245f9dcfc", func := "gridwork/gridworklaw28.ResonanceAll", spec := "resonanceAll", inPlace := ["math.Float64frombits", "math.Float64bits"], unfollowed := true, recurses := true, apart := false }
def ResonanceAllSaid : Prop := resonanceAllRow.holds Tryz.pinned (OpenSpec.ofChange resonanceAllSpec)

/-- ITS FALSE NEIGHBOUR: 'it returns false'. Refute it at one input. -/
def resonanceAllWrong : ChangeSpec := { name := "resonanceAll", fn := fun _ => fun
  | [d1, d2] => { results := [.lit (.bool false)], args := [d1, d2] }
  | _ => none }
def ResonanceAllWrongFalsely : Prop := resonanceAllRow.holds Tryz.pinned (OpenSpec.ofChange resonanceAllWrong)

/-- 'gridworklaw28.ResonanceNone': WHATEVER THE INPUT: true; the input reads as it did. -/
def resonanceNoneSpec : ChangeSpec := { name := "resonanceNone", fn := fun _ => fun
  | [d] => { results := [.lit (.bool true)], args := [d] }
  | _ => none }
def resonanceNoneRow : OpenClaim := { program := "yteggchdkjamdmaagreat", sum := "670d5196e9be01e2d901fdd4d0c9a5d079cdb8c2a96d09ebb44e2f6245f9dcfc", func := "gridwork/gridworklaw28.ResonanceNone", spec := "resonanceNone", inPlace := ["math.Float64bits", "math.Float64frombits"], unfollowed := true, recurses := true, apart := false }
def ResonanceNoneSaid : Prop := resonanceNoneRow.holds Tryz.pinned (OpenSpec.ofChange resonanceNoneSpec)

/-- ITS FALSE NEIGHBOUR: 'it returns false'. Refute it at one input. -/
def resonanceNoneWrong : ChangeSpec := { name := "resonanceNone", fn := fun _ => fun
  | [d] => { results := [.lit (.bool false)], args := [d] }
  | _ => none }
def ResonanceNoneWrongFalsely : Prop := resonanceNoneRow.holds Tryz.pinned (OpenSpec.ofChange resonanceNoneWrong)

/-- 'gridworklaw28.ResonanceKnown': WHATEVER THE INPUT: true; the input reads as it did. -/
def resonanceKnownSpec : ChangeSpec := { name := "resonanceKnown", fn := fun _ => fun
  | [] => { results := [.lit (.bool true)], args := [] }
  | _ => none }
def resonanceKnownRow : OpenClaim := { program := "yteggchdkjamdmaagreat", sum := "670d5196e9be01e2d901fdd4d0c9a5d079cdb8c2a96d09ebb44e2f6245f9dcfc", func := "gridwork/gridworklaw28.ResonanceKnown", spec := "resonanceKnown", inPlace := ["math.Float64bits", "math.Float64frombits"], unfollowed := true, recurses := true, apart := false }
def ResonanceKnownSaid : Prop := resonanceKnownRow.holds Tryz.pinned (OpenSpec.ofChange resonanceKnownSpec)

/-- ITS FALSE NEIGHBOUR: 'it returns false'. Refute it at one input. -/
def resonanceKnownWrong : ChangeSpec := { name := "resonanceKnown", fn := fun _ => fun
  | [] => { results := [.lit (.bool false)], args := [] }
  | _ => none }
def ResonanceKnownWrongFalsely : Prop := resonanceKnownRow.holds Tryz.pinned (OpenSpec.ofChange resonanceKnownWrong)

/-- 'gridworklaw28.ResonanceBand': WHATEVER THE INPUT: true; the input reads as it did. -/
def resonanceBandSpec : ChangeSpec := { name := "resonanceBand", fn := fun _ => fun
  | [d1, d2] => { results := [.lit (.bool true)], args := [d1, d2] }
  | _ => none }
def resonanceBandRow : OpenClaim := { program := "yteggchdkjamdmaagreat", sum := "670d5196e9be01e2d901fdd4d0c9a5d079cdb8c2a96d09ebb44e2f6245f9dcfc", func := "gridwork/gridworklaw28.ResonanceBand", spec := "resonanceBand", inPlace := ["math.Float64bits", "math.Float64frombits"], unfollowed := true, recurses := true, apart := false }
def ResonanceBandSaid : Prop := resonanceBandRow.holds Tryz.pinned (OpenSpec.ofChange resonanceBandSpec)

/-- ITS FALSE NEIGHBOUR: 'it returns false'. Refute it at one input. -/
def resonanceBandWrong : ChangeSpec := { name := "resonanceBand", fn := fun _ => fun
  | [d1, d2] => { results := [.lit (.bool false)], args := [d1, d2] }
  | _ => none }
def ResonanceBandWrongFalsely : Prop := resonanceBandRow.holds Tryz.pinned (OpenSpec.ofChange resonanceBandWrong)

/- THE SECOND FORM. 'bulk': how many values and letters a reading holds, each counted each time it is reached (what is shared counts as often as it is met; a slice's spare places count too). A statement '..UptoSaid' is the law's where the arguments, and the package variables that the reading takes, are together of bulk at most 1048576: NARROWER than '..Said'. Prove '..Said' where nothing that the law and all that it calls make is longer than what came in: it says more and counts as full. Else prove '..UptoSaid'. A law counts once. -/
mutual
def uptoBulk {H : Type} : DataW H → Nat
  | .lit (.string bytes) => bytes.length + 1
  | .lit _ => 1
  | .nil => 1
  | .ptr d => uptoBulk d + 1
  | .slice elems spare => uptoBulkAll elems + uptoBulkAll spare + 1
  | .agg parts => uptoBulkAll parts + 1
  | .iface _ d => uptoBulk d + 1
  | .map entries => uptoBulkEntries entries + 1
  | .held _ => 1
def uptoBulkAll {H : Type} : List (DataW H) → Nat
  | [] => 0
  | d :: r => uptoBulk d + uptoBulkAll r
def uptoBulkEntries {H : Type} : List (Lit × DataW H) → Nat
  | [] => 0
  | x :: r => uptoBulkEntry x + uptoBulkEntries r
def uptoBulkEntry {H : Type} : Lit × DataW H → Nat
  | (.string bytes, d) => bytes.length + uptoBulk d + 1
  | (_, d) => uptoBulk d + 1
 end
def uptoSmall : (H : Type) → List (DataW H) → Bool := fun _ ds => decide (uptoBulkAll ds ≤ 1048576)
def OpenSpec.upto (s : _root_.Go.ChangeSpec) : _root_.Go.OpenSpec := { _root_.Go.OpenSpec.ofChange s with cond := some uptoSmall }

/-- 'gridworktop.TopFound', WHERE WHAT IT READS IS OF BULK AT MOST 1048576: true; the input reads as it did. -/
def topFoundUptoRow : OpenClaim := { program := "yteggchdkjamdmaagreat", sum := "670d5196e9be01e2d901fdd4d0c9a5d079cdb8c2a96d09ebb44e2f6245f9dcfc", func := "gridwork/gridworktop.TopFound", spec := "topFound", inPlace := ["math.Float64bits", "math.Float64frombits"], unfollowed := true, recurses := true, apart := false, narrowed := true }
def TopFoundUptoSaid : Prop := topFoundUptoRow.holds Tryz.pinned (OpenSpec.upto topFoundSpec)

/-- 'gridworklaw28.ResonanceQuiet', WHERE WHAT IT READS IS OF BULK AT MOST 1048576: true; the input reads as it did. -/
def resonanceQuietUptoRow : OpenClaim := { program := "yteggchdkjamdmaagreat", sum := "670d5196e9be01e2d901fdd4d0c9a5d079cdb8c2a96d09ebb44e2f6245f9dcfc", func := "gridwork/gridworklaw28.ResonanceQuiet", spec := "resonanceQuiet", inPlace := ["math.Float64bits", "math.Float64frombits"], unfollowed := true, recurses := true, apart := false, narrowed := true }
def ResonanceQuietUptoSaid : Prop := resonanceQuietUptoRow.holds Tryz.pinned (OpenSpec.upto resonanceQuietSpec)

/-- 'gridworklaw28.ResonanceBetween', WHERE WHAT IT READS IS OF BULK AT MOST 1048576: true; the input reads as it did. -/
def resonanceBetweenUptoRow : OpenClaim := { program := "yteggchdkjamdmaagreat", sum := "670d5196e9be01e2d901fdd4d0c9a5d079cdb8c2a96d09ebb44e2f6245f9dcfc", func := "gridwork/gridworklaw28.ResonanceBetween", spec := "resonanceBetween", inPlace := ["math.Float64bits", "math.Float64frombits"], unfollowed := true, recurses := true, apart := false, narrowed := true }
def ResonanceBetweenUptoSaid : Prop := resonanceBetweenUptoRow.holds Tryz.pinned (OpenSpec.upto resonanceBetweenSpec)

/-- 'gridworklaw28.ResonanceAll', WHERE WHAT IT READS IS OF BULK AT MOST 1048576: true; the input reads as it did. -/
def resonanceAllUptoRow : OpenClaim := { program := "yteggchdkjamdmaagreat", sum := "670d5196e9be01e2d901fdd4d0c9a5d079cdb8c2a96d09ebb44e2f6245f9dcfc", func := "gridwork/gridworklaw28.ResonanceAll", spec := "resonanceAll", inPlace := ["math.Float64frombits", "math.Float64bits"], unfollowed := true, recurses := true, apart := false, narrowed := true }
def ResonanceAllUptoSaid : Prop := resonanceAllUptoRow.holds Tryz.pinned (OpenSpec.upto resonanceAllSpec)

/-- 'gridworklaw28.ResonanceNone', WHERE WHAT IT READS IS OF BULK AT MOST 1048576: true; the input reads as it did. -/
def resonanceNoneUptoRow : OpenClaim := { program := "yteggchdkjamdmaagreat", sum := "670d5196e9be01e2d901fdd4d0c9a5d079cdb8c2a96d09ebb44e2f6245f9dcfc", func := "gridwork/gridworklaw28.ResonanceNone", spec := "resonanceNone", inPlace := ["math.Float64bits", "math.Float64frombits"], unfollowed := true, recurses := true, apart := false, narrowed := true }
def ResonanceNoneUptoSaid : Prop := resonanceNoneUptoRow.holds Tryz.pinned (OpenSpec.upto resonanceNoneSpec)

/-- 'gridworklaw28.ResonanceKnown', WHERE WHAT IT READS IS OF BULK AT MOST 1048576: true; the input reads as it did. -/
def resonanceKnownUptoRow : OpenClaim := { program := "yteggchdkjamdmaagreat", sum := "670d5196e9be01e2d901fdd4d0c9a5d079cdb8c2a96d09ebb44e2f6245f9dcfc", func := "gridwork/gridworklaw28.ResonanceKnown", spec := "resonanceKnown", inPlace := ["math.Float64bits", "math.Float64frombits"], unfollowed := true, recurses := true, apart := false, narrowed := true }
def ResonanceKnownUptoSaid : Prop := resonanceKnownUptoRow.holds Tryz.pinned (OpenSpec.upto resonanceKnownSpec)

/-- 'gridworklaw28.ResonanceBand', WHERE WHAT IT READS IS OF BULK AT MOST 1048576: true; the input reads as it did. -/
def resonanceBandUptoRow : OpenClaim := { program := "yteggchdkjamdmaagreat", sum := "670d5196e9be01e2d901fdd4d0c9a5d079cdb8c2a96d09ebb44e2f6245f9dcfc", func := "gridwork/gridworklaw28.ResonanceBand", spec := "resonanceBand", inPlace := ["math.Float64bits", "math.Float64frombits"], unfollowed := true, recurses := true, apart := false, narrowed := true }
def ResonanceBandUptoSaid : Prop := resonanceBandUptoRow.holds Tryz.pinned (OpenSpec.upto resonanceBandSpec)

end Rows
end Go.Proofs.YteggchdkjamdmaaGreat
