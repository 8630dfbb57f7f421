/- SourcePhasors: returns true for every input; no conditions. By the engine's runs, checked by the kernel. -/
import Derived.Test.YtdagokpedjfepaaRows
import Derived.ProofKit
import Derived.OpenShut
import Derived.KernelRfl
import Derived.SizedLaws
import Derived.Carry
import Derived.ChangeMaps5
import Derived.Test.YtdagokpedjfepaaSourcePhasorsPB
namespace Go.Proofs.Ytdagokpedjfepaa
open Go.ChangeShapes Go.WideShapes Go.ChangeAt Go.RowKit
set_option linter.unusedVariables false
set_option linter.unusedSimpArgs false

theorem own : ownKnob Try.prog.godebug = none := by kernel_rfl
theorem laidOut : laidOutB Try.prog = true := by kernel_rfl
theorem rchk_r13 (k : Int) (n a b c d : List UInt8) (v : Nat) (ph : Int) (c0 : (!rrow_6 k) = false) (c1 : (!rname_1 n) = false) (c2 : (!decide (rname_0 n = k)) = false) (c3 : (!rnode_0 a) = false) (c4 : (!rnode_0 b) = false) (c5 : rrow_5 k = false) (c6 : (a == b) = false) (c7 : (!rrow_5 k) = true) (c8 : (!c == []) = false) (c9 : (!d == []) = false) (c10 : (!rrow_4 k) = false) (c11 : decide ((2 : Int) < rkind_0 v) = true) : Sx.PureP (Sx.AV.int false IntKind.i64 (5 : Int)) (call3 39 [.agg [.int true .u8 k, .str true n, .str true a, .str true b, .str true c, .str true d, .raw true v, .int true .i64 ph]] (Sx.G.on [false, false, false, false, false, false, false, true, false, false, false, true])) := by
 have e : Sx.pureP (Sx.AV.int false IntKind.i64 (5 : Int)) (call3 39 [.agg [.int true .u8 k, .str true n, .str true a, .str true b, .str true c, .str true d, .raw true v, .int true .i64 ph]] (Sx.G.on [false, false, false, false, false, false, false, true, false, false, false, true])) = ((Sx.AV.int false IntKind.i64 (5 : Int)) = (Sx.AV.int false IntKind.i64 (5 : Int)) ∧ ((((((((((((True ∧ ((!rrow_6 k) = false)) ∧ ((!rname_1 n) = false)) ∧ ((!decide (rname_0 n = k)) = false)) ∧ ((!rnode_0 a) = false)) ∧ ((!rnode_0 b) = false)) ∧ (rrow_5 k = false)) ∧ ((a == b) = false)) ∧ ((!rrow_5 k) = true)) ∧ ((!c == []) = false)) ∧ ((!d == []) = false)) ∧ ((!rrow_4 k) = false)) ∧ (decide ((2 : Int) < rkind_0 v) = true))) := by kernel_rfl
 exact ⟨by rw [e]; exact ⟨rfl, ⟨⟨⟨⟨⟨⟨⟨⟨⟨⟨⟨⟨trivial, c0⟩, c1⟩, c2⟩, c3⟩, c4⟩, c5⟩, c6⟩, c7⟩, c8⟩, c9⟩, c10⟩, c11⟩⟩⟩
theorem rchk_r14 (k : Int) (n a b c d : List UInt8) (v : Nat) (ph : Int) (c0 : (!rrow_6 k) = false) (c1 : (!rname_1 n) = false) (c2 : (!decide (rname_0 n = k)) = false) (c3 : (!rnode_0 a) = false) (c4 : (!rnode_0 b) = false) (c5 : rrow_5 k = false) (c6 : (a == b) = false) (c7 : (!rrow_5 k) = true) (c8 : (!c == []) = false) (c9 : (!d == []) = false) (c10 : (!rrow_4 k) = false) (c11 : decide ((2 : Int) < rkind_0 v) = false) (c12 : rrow_3 k = true) (c13 : (!Sx.fgt (Sx.cn v) (Sx.cn (0 : Nat))) = false) : Sx.PureP (Sx.AV.int false IntKind.i64 (0 : Int)) (call3 39 [.agg [.int true .u8 k, .str true n, .str true a, .str true b, .str true c, .str true d, .raw true v, .int true .i64 ph]] (Sx.G.on [false, false, false, false, false, false, false, true, false, false, false, false, true, false])) := by
 have e : Sx.pureP (Sx.AV.int false IntKind.i64 (0 : Int)) (call3 39 [.agg [.int true .u8 k, .str true n, .str true a, .str true b, .str true c, .str true d, .raw true v, .int true .i64 ph]] (Sx.G.on [false, false, false, false, false, false, false, true, false, false, false, false, true, false])) = ((Sx.AV.int false IntKind.i64 (0 : Int)) = (Sx.AV.int false IntKind.i64 (0 : Int)) ∧ ((((((((((((((True ∧ ((!rrow_6 k) = false)) ∧ ((!rname_1 n) = false)) ∧ ((!decide (rname_0 n = k)) = false)) ∧ ((!rnode_0 a) = false)) ∧ ((!rnode_0 b) = false)) ∧ (rrow_5 k = false)) ∧ ((a == b) = false)) ∧ ((!rrow_5 k) = true)) ∧ ((!c == []) = false)) ∧ ((!d == []) = false)) ∧ ((!rrow_4 k) = false)) ∧ (decide ((2 : Int) < rkind_0 v) = false)) ∧ (rrow_3 k = true)) ∧ ((!Sx.fgt (Sx.cn v) (Sx.cn (0 : Nat))) = false))) := by kernel_rfl
 exact ⟨by rw [e]; exact ⟨rfl, ⟨⟨⟨⟨⟨⟨⟨⟨⟨⟨⟨⟨⟨⟨trivial, c0⟩, c1⟩, c2⟩, c3⟩, c4⟩, c5⟩, c6⟩, c7⟩, c8⟩, c9⟩, c10⟩, c11⟩, c12⟩, c13⟩⟩⟩
theorem rchk_r15 (k : Int) (n a b c d : List UInt8) (v : Nat) (ph : Int) (c0 : (!rrow_6 k) = false) (c1 : (!rname_1 n) = false) (c2 : (!decide (rname_0 n = k)) = false) (c3 : (!rnode_0 a) = false) (c4 : (!rnode_0 b) = false) (c5 : rrow_5 k = false) (c6 : (a == b) = false) (c7 : (!rrow_5 k) = true) (c8 : (!c == []) = false) (c9 : (!d == []) = false) (c10 : (!rrow_4 k) = false) (c11 : decide ((2 : Int) < rkind_0 v) = false) (c12 : rrow_3 k = true) (c13 : (!Sx.fgt (Sx.cn v) (Sx.cn (0 : Nat))) = true) : Sx.PureP (Sx.AV.int false IntKind.i64 (2 : Int)) (call3 39 [.agg [.int true .u8 k, .str true n, .str true a, .str true b, .str true c, .str true d, .raw true v, .int true .i64 ph]] (Sx.G.on [false, false, false, false, false, false, false, true, false, false, false, false, true, true])) := by
 have e : Sx.pureP (Sx.AV.int false IntKind.i64 (2 : Int)) (call3 39 [.agg [.int true .u8 k, .str true n, .str true a, .str true b, .str true c, .str true d, .raw true v, .int true .i64 ph]] (Sx.G.on [false, false, false, false, false, false, false, true, false, false, false, false, true, true])) = ((Sx.AV.int false IntKind.i64 (2 : Int)) = (Sx.AV.int false IntKind.i64 (2 : Int)) ∧ ((((((((((((((True ∧ ((!rrow_6 k) = false)) ∧ ((!rname_1 n) = false)) ∧ ((!decide (rname_0 n = k)) = false)) ∧ ((!rnode_0 a) = false)) ∧ ((!rnode_0 b) = false)) ∧ (rrow_5 k = false)) ∧ ((a == b) = false)) ∧ ((!rrow_5 k) = true)) ∧ ((!c == []) = false)) ∧ ((!d == []) = false)) ∧ ((!rrow_4 k) = false)) ∧ (decide ((2 : Int) < rkind_0 v) = false)) ∧ (rrow_3 k = true)) ∧ ((!Sx.fgt (Sx.cn v) (Sx.cn (0 : Nat))) = true))) := by kernel_rfl
 exact ⟨by rw [e]; exact ⟨rfl, ⟨⟨⟨⟨⟨⟨⟨⟨⟨⟨⟨⟨⟨⟨trivial, c0⟩, c1⟩, c2⟩, c3⟩, c4⟩, c5⟩, c6⟩, c7⟩, c8⟩, c9⟩, c10⟩, c11⟩, c12⟩, c13⟩⟩⟩
theorem rchk_r16 (k : Int) (n a b c d : List UInt8) (v : Nat) (ph : Int) (c0 : (!rrow_6 k) = false) (c1 : (!rname_1 n) = false) (c2 : (!decide (rname_0 n = k)) = false) (c3 : (!rnode_0 a) = false) (c4 : (!rnode_0 b) = false) (c5 : rrow_5 k = false) (c6 : (a == b) = false) (c7 : (!rrow_5 k) = true) (c8 : (!c == []) = false) (c9 : (!d == []) = false) (c10 : (!rrow_4 k) = false) (c11 : decide ((2 : Int) < rkind_0 v) = false) (c12 : rrow_3 k = false) : Sx.PureP (Sx.AV.int false IntKind.i64 (0 : Int)) (call3 39 [.agg [.int true .u8 k, .str true n, .str true a, .str true b, .str true c, .str true d, .raw true v, .int true .i64 ph]] (Sx.G.on [false, false, false, false, false, false, false, true, false, false, false, false, false])) := by
 have e : Sx.pureP (Sx.AV.int false IntKind.i64 (0 : Int)) (call3 39 [.agg [.int true .u8 k, .str true n, .str true a, .str true b, .str true c, .str true d, .raw true v, .int true .i64 ph]] (Sx.G.on [false, false, false, false, false, false, false, true, false, false, false, false, false])) = ((Sx.AV.int false IntKind.i64 (0 : Int)) = (Sx.AV.int false IntKind.i64 (0 : Int)) ∧ (((((((((((((True ∧ ((!rrow_6 k) = false)) ∧ ((!rname_1 n) = false)) ∧ ((!decide (rname_0 n = k)) = false)) ∧ ((!rnode_0 a) = false)) ∧ ((!rnode_0 b) = false)) ∧ (rrow_5 k = false)) ∧ ((a == b) = false)) ∧ ((!rrow_5 k) = true)) ∧ ((!c == []) = false)) ∧ ((!d == []) = false)) ∧ ((!rrow_4 k) = false)) ∧ (decide ((2 : Int) < rkind_0 v) = false)) ∧ (rrow_3 k = false))) := by kernel_rfl
 exact ⟨by rw [e]; exact ⟨rfl, ⟨⟨⟨⟨⟨⟨⟨⟨⟨⟨⟨⟨⟨trivial, c0⟩, c1⟩, c2⟩, c3⟩, c4⟩, c5⟩, c6⟩, c7⟩, c8⟩, c9⟩, c10⟩, c11⟩, c12⟩⟩⟩
theorem rchk_r17 (k : Int) (n a b c d : List UInt8) (v : Nat) (ph : Int) (c0 : (!rrow_6 k) = false) (c1 : (!rname_1 n) = false) (c2 : (!decide (rname_0 n = k)) = false) (c3 : (!rnode_0 a) = false) (c4 : (!rnode_0 b) = false) (c5 : rrow_5 k = false) (c6 : (a == b) = false) (c7 : (!rrow_5 k) = true) (c8 : (!c == []) = false) (c9 : (!d == []) = false) (c10 : (!rrow_4 k) = true) (c11 : (!decide (ph = (0 : Int))) = false) (c12 : decide ((2 : Int) < rkind_0 v) = true) : Sx.PureP (Sx.AV.int false IntKind.i64 (5 : Int)) (call3 39 [.agg [.int true .u8 k, .str true n, .str true a, .str true b, .str true c, .str true d, .raw true v, .int true .i64 ph]] (Sx.G.on [false, false, false, false, false, false, false, true, false, false, true, false, true])) := by
 have e : Sx.pureP (Sx.AV.int false IntKind.i64 (5 : Int)) (call3 39 [.agg [.int true .u8 k, .str true n, .str true a, .str true b, .str true c, .str true d, .raw true v, .int true .i64 ph]] (Sx.G.on [false, false, false, false, false, false, false, true, false, false, true, false, true])) = ((Sx.AV.int false IntKind.i64 (5 : Int)) = (Sx.AV.int false IntKind.i64 (5 : Int)) ∧ (((((((((((((True ∧ ((!rrow_6 k) = false)) ∧ ((!rname_1 n) = false)) ∧ ((!decide (rname_0 n = k)) = false)) ∧ ((!rnode_0 a) = false)) ∧ ((!rnode_0 b) = false)) ∧ (rrow_5 k = false)) ∧ ((a == b) = false)) ∧ ((!rrow_5 k) = true)) ∧ ((!c == []) = false)) ∧ ((!d == []) = false)) ∧ ((!rrow_4 k) = true)) ∧ ((!decide (ph = (0 : Int))) = false)) ∧ (decide ((2 : Int) < rkind_0 v) = true))) := by kernel_rfl
 exact ⟨by rw [e]; exact ⟨rfl, ⟨⟨⟨⟨⟨⟨⟨⟨⟨⟨⟨⟨⟨trivial, c0⟩, c1⟩, c2⟩, c3⟩, c4⟩, c5⟩, c6⟩, c7⟩, c8⟩, c9⟩, c10⟩, c11⟩, c12⟩⟩⟩
theorem rchk_r18 (k : Int) (n a b c d : List UInt8) (v : Nat) (ph : Int) (c0 : (!rrow_6 k) = false) (c1 : (!rname_1 n) = false) (c2 : (!decide (rname_0 n = k)) = false) (c3 : (!rnode_0 a) = false) (c4 : (!rnode_0 b) = false) (c5 : rrow_5 k = false) (c6 : (a == b) = false) (c7 : (!rrow_5 k) = true) (c8 : (!c == []) = false) (c9 : (!d == []) = false) (c10 : (!rrow_4 k) = true) (c11 : (!decide (ph = (0 : Int))) = false) (c12 : decide ((2 : Int) < rkind_0 v) = false) (c13 : rrow_3 k = true) (c14 : (!Sx.fgt (Sx.cn v) (Sx.cn (0 : Nat))) = false) : Sx.PureP (Sx.AV.int false IntKind.i64 (0 : Int)) (call3 39 [.agg [.int true .u8 k, .str true n, .str true a, .str true b, .str true c, .str true d, .raw true v, .int true .i64 ph]] (Sx.G.on [false, false, false, false, false, false, false, true, false, false, true, false, false, true, false])) := by
 have e : Sx.pureP (Sx.AV.int false IntKind.i64 (0 : Int)) (call3 39 [.agg [.int true .u8 k, .str true n, .str true a, .str true b, .str true c, .str true d, .raw true v, .int true .i64 ph]] (Sx.G.on [false, false, false, false, false, false, false, true, false, false, true, false, false, true, false])) = ((Sx.AV.int false IntKind.i64 (0 : Int)) = (Sx.AV.int false IntKind.i64 (0 : Int)) ∧ (((((((((((((((True ∧ ((!rrow_6 k) = false)) ∧ ((!rname_1 n) = false)) ∧ ((!decide (rname_0 n = k)) = false)) ∧ ((!rnode_0 a) = false)) ∧ ((!rnode_0 b) = false)) ∧ (rrow_5 k = false)) ∧ ((a == b) = false)) ∧ ((!rrow_5 k) = true)) ∧ ((!c == []) = false)) ∧ ((!d == []) = false)) ∧ ((!rrow_4 k) = true)) ∧ ((!decide (ph = (0 : Int))) = false)) ∧ (decide ((2 : Int) < rkind_0 v) = false)) ∧ (rrow_3 k = true)) ∧ ((!Sx.fgt (Sx.cn v) (Sx.cn (0 : Nat))) = false))) := by kernel_rfl
 exact ⟨by rw [e]; exact ⟨rfl, ⟨⟨⟨⟨⟨⟨⟨⟨⟨⟨⟨⟨⟨⟨⟨trivial, c0⟩, c1⟩, c2⟩, c3⟩, c4⟩, c5⟩, c6⟩, c7⟩, c8⟩, c9⟩, c10⟩, c11⟩, c12⟩, c13⟩, c14⟩⟩⟩
theorem rchk_r19 (k : Int) (n a b c d : List UInt8) (v : Nat) (ph : Int) (c0 : (!rrow_6 k) = false) (c1 : (!rname_1 n) = false) (c2 : (!decide (rname_0 n = k)) = false) (c3 : (!rnode_0 a) = false) (c4 : (!rnode_0 b) = false) (c5 : rrow_5 k = false) (c6 : (a == b) = false) (c7 : (!rrow_5 k) = true) (c8 : (!c == []) = false) (c9 : (!d == []) = false) (c10 : (!rrow_4 k) = true) (c11 : (!decide (ph = (0 : Int))) = false) (c12 : decide ((2 : Int) < rkind_0 v) = false) (c13 : rrow_3 k = true) (c14 : (!Sx.fgt (Sx.cn v) (Sx.cn (0 : Nat))) = true) : Sx.PureP (Sx.AV.int false IntKind.i64 (2 : Int)) (call3 39 [.agg [.int true .u8 k, .str true n, .str true a, .str true b, .str true c, .str true d, .raw true v, .int true .i64 ph]] (Sx.G.on [false, false, false, false, false, false, false, true, false, false, true, false, false, true, true])) := by
 have e : Sx.pureP (Sx.AV.int false IntKind.i64 (2 : Int)) (call3 39 [.agg [.int true .u8 k, .str true n, .str true a, .str true b, .str true c, .str true d, .raw true v, .int true .i64 ph]] (Sx.G.on [false, false, false, false, false, false, false, true, false, false, true, false, false, true, true])) = ((Sx.AV.int false IntKind.i64 (2 : Int)) = (Sx.AV.int false IntKind.i64 (2 : Int)) ∧ (((((((((((((((True ∧ ((!rrow_6 k) = false)) ∧ ((!rname_1 n) = false)) ∧ ((!decide (rname_0 n = k)) = false)) ∧ ((!rnode_0 a) = false)) ∧ ((!rnode_0 b) = false)) ∧ (rrow_5 k = false)) ∧ ((a == b) = false)) ∧ ((!rrow_5 k) = true)) ∧ ((!c == []) = false)) ∧ ((!d == []) = false)) ∧ ((!rrow_4 k) = true)) ∧ ((!decide (ph = (0 : Int))) = false)) ∧ (decide ((2 : Int) < rkind_0 v) = false)) ∧ (rrow_3 k = true)) ∧ ((!Sx.fgt (Sx.cn v) (Sx.cn (0 : Nat))) = true))) := by kernel_rfl
 exact ⟨by rw [e]; exact ⟨rfl, ⟨⟨⟨⟨⟨⟨⟨⟨⟨⟨⟨⟨⟨⟨⟨trivial, c0⟩, c1⟩, c2⟩, c3⟩, c4⟩, c5⟩, c6⟩, c7⟩, c8⟩, c9⟩, c10⟩, c11⟩, c12⟩, c13⟩, c14⟩⟩⟩
theorem rchk_r20 (k : Int) (n a b c d : List UInt8) (v : Nat) (ph : Int) (c0 : (!rrow_6 k) = false) (c1 : (!rname_1 n) = false) (c2 : (!decide (rname_0 n = k)) = false) (c3 : (!rnode_0 a) = false) (c4 : (!rnode_0 b) = false) (c5 : rrow_5 k = false) (c6 : (a == b) = false) (c7 : (!rrow_5 k) = true) (c8 : (!c == []) = false) (c9 : (!d == []) = false) (c10 : (!rrow_4 k) = true) (c11 : (!decide (ph = (0 : Int))) = false) (c12 : decide ((2 : Int) < rkind_0 v) = false) (c13 : rrow_3 k = false) : Sx.PureP (Sx.AV.int false IntKind.i64 (0 : Int)) (call3 39 [.agg [.int true .u8 k, .str true n, .str true a, .str true b, .str true c, .str true d, .raw true v, .int true .i64 ph]] (Sx.G.on [false, false, false, false, false, false, false, true, false, false, true, false, false, false])) := by
 have e : Sx.pureP (Sx.AV.int false IntKind.i64 (0 : Int)) (call3 39 [.agg [.int true .u8 k, .str true n, .str true a, .str true b, .str true c, .str true d, .raw true v, .int true .i64 ph]] (Sx.G.on [false, false, false, false, false, false, false, true, false, false, true, false, false, false])) = ((Sx.AV.int false IntKind.i64 (0 : Int)) = (Sx.AV.int false IntKind.i64 (0 : Int)) ∧ ((((((((((((((True ∧ ((!rrow_6 k) = false)) ∧ ((!rname_1 n) = false)) ∧ ((!decide (rname_0 n = k)) = false)) ∧ ((!rnode_0 a) = false)) ∧ ((!rnode_0 b) = false)) ∧ (rrow_5 k = false)) ∧ ((a == b) = false)) ∧ ((!rrow_5 k) = true)) ∧ ((!c == []) = false)) ∧ ((!d == []) = false)) ∧ ((!rrow_4 k) = true)) ∧ ((!decide (ph = (0 : Int))) = false)) ∧ (decide ((2 : Int) < rkind_0 v) = false)) ∧ (rrow_3 k = false))) := by kernel_rfl
 exact ⟨by rw [e]; exact ⟨rfl, ⟨⟨⟨⟨⟨⟨⟨⟨⟨⟨⟨⟨⟨⟨trivial, c0⟩, c1⟩, c2⟩, c3⟩, c4⟩, c5⟩, c6⟩, c7⟩, c8⟩, c9⟩, c10⟩, c11⟩, c12⟩, c13⟩⟩⟩
theorem rchk_r21 (k : Int) (n a b c d : List UInt8) (v : Nat) (ph : Int) (c0 : (!rrow_6 k) = false) (c1 : (!rname_1 n) = false) (c2 : (!decide (rname_0 n = k)) = false) (c3 : (!rnode_0 a) = false) (c4 : (!rnode_0 b) = false) (c5 : rrow_5 k = false) (c6 : (a == b) = false) (c7 : (!rrow_5 k) = true) (c8 : (!c == []) = false) (c9 : (!d == []) = false) (c10 : (!rrow_4 k) = true) (c11 : (!decide (ph = (0 : Int))) = true) : Sx.PureP (Sx.AV.int false IntKind.i64 (2 : Int)) (call3 39 [.agg [.int true .u8 k, .str true n, .str true a, .str true b, .str true c, .str true d, .raw true v, .int true .i64 ph]] (Sx.G.on [false, false, false, false, false, false, false, true, false, false, true, true])) := by
 have e : Sx.pureP (Sx.AV.int false IntKind.i64 (2 : Int)) (call3 39 [.agg [.int true .u8 k, .str true n, .str true a, .str true b, .str true c, .str true d, .raw true v, .int true .i64 ph]] (Sx.G.on [false, false, false, false, false, false, false, true, false, false, true, true])) = ((Sx.AV.int false IntKind.i64 (2 : Int)) = (Sx.AV.int false IntKind.i64 (2 : Int)) ∧ ((((((((((((True ∧ ((!rrow_6 k) = false)) ∧ ((!rname_1 n) = false)) ∧ ((!decide (rname_0 n = k)) = false)) ∧ ((!rnode_0 a) = false)) ∧ ((!rnode_0 b) = false)) ∧ (rrow_5 k = false)) ∧ ((a == b) = false)) ∧ ((!rrow_5 k) = true)) ∧ ((!c == []) = false)) ∧ ((!d == []) = false)) ∧ ((!rrow_4 k) = true)) ∧ ((!decide (ph = (0 : Int))) = true))) := by kernel_rfl
 exact ⟨by rw [e]; exact ⟨rfl, ⟨⟨⟨⟨⟨⟨⟨⟨⟨⟨⟨⟨trivial, c0⟩, c1⟩, c2⟩, c3⟩, c4⟩, c5⟩, c6⟩, c7⟩, c8⟩, c9⟩, c10⟩, c11⟩⟩⟩
theorem rchk_r22 (k : Int) (n a b c d : List UInt8) (v : Nat) (ph : Int) (c0 : (!rrow_6 k) = false) (c1 : (!rname_1 n) = false) (c2 : (!decide (rname_0 n = k)) = false) (c3 : (!rnode_0 a) = false) (c4 : (!rnode_0 b) = false) (c5 : rrow_5 k = false) (c6 : (a == b) = false) (c7 : (!rrow_5 k) = true) (c8 : (!c == []) = false) (c9 : (!d == []) = true) : Sx.PureP (Sx.AV.int false IntKind.i64 (2 : Int)) (call3 39 [.agg [.int true .u8 k, .str true n, .str true a, .str true b, .str true c, .str true d, .raw true v, .int true .i64 ph]] (Sx.G.on [false, false, false, false, false, false, false, true, false, true])) := by
 have e : Sx.pureP (Sx.AV.int false IntKind.i64 (2 : Int)) (call3 39 [.agg [.int true .u8 k, .str true n, .str true a, .str true b, .str true c, .str true d, .raw true v, .int true .i64 ph]] (Sx.G.on [false, false, false, false, false, false, false, true, false, true])) = ((Sx.AV.int false IntKind.i64 (2 : Int)) = (Sx.AV.int false IntKind.i64 (2 : Int)) ∧ ((((((((((True ∧ ((!rrow_6 k) = false)) ∧ ((!rname_1 n) = false)) ∧ ((!decide (rname_0 n = k)) = false)) ∧ ((!rnode_0 a) = false)) ∧ ((!rnode_0 b) = false)) ∧ (rrow_5 k = false)) ∧ ((a == b) = false)) ∧ ((!rrow_5 k) = true)) ∧ ((!c == []) = false)) ∧ ((!d == []) = true))) := by kernel_rfl
 exact ⟨by rw [e]; exact ⟨rfl, ⟨⟨⟨⟨⟨⟨⟨⟨⟨⟨trivial, c0⟩, c1⟩, c2⟩, c3⟩, c4⟩, c5⟩, c6⟩, c7⟩, c8⟩, c9⟩⟩⟩
theorem rchk_r23 (k : Int) (n a b c d : List UInt8) (v : Nat) (ph : Int) (c0 : (!rrow_6 k) = false) (c1 : (!rname_1 n) = false) (c2 : (!decide (rname_0 n = k)) = false) (c3 : (!rnode_0 a) = false) (c4 : (!rnode_0 b) = false) (c5 : rrow_5 k = false) (c6 : (a == b) = false) (c7 : (!rrow_5 k) = true) (c8 : (!c == []) = true) : Sx.PureP (Sx.AV.int false IntKind.i64 (2 : Int)) (call3 39 [.agg [.int true .u8 k, .str true n, .str true a, .str true b, .str true c, .str true d, .raw true v, .int true .i64 ph]] (Sx.G.on [false, false, false, false, false, false, false, true, true])) := by
 have e : Sx.pureP (Sx.AV.int false IntKind.i64 (2 : Int)) (call3 39 [.agg [.int true .u8 k, .str true n, .str true a, .str true b, .str true c, .str true d, .raw true v, .int true .i64 ph]] (Sx.G.on [false, false, false, false, false, false, false, true, true])) = ((Sx.AV.int false IntKind.i64 (2 : Int)) = (Sx.AV.int false IntKind.i64 (2 : Int)) ∧ (((((((((True ∧ ((!rrow_6 k) = false)) ∧ ((!rname_1 n) = false)) ∧ ((!decide (rname_0 n = k)) = false)) ∧ ((!rnode_0 a) = false)) ∧ ((!rnode_0 b) = false)) ∧ (rrow_5 k = false)) ∧ ((a == b) = false)) ∧ ((!rrow_5 k) = true)) ∧ ((!c == []) = true))) := by kernel_rfl
 exact ⟨by rw [e]; exact ⟨rfl, ⟨⟨⟨⟨⟨⟨⟨⟨⟨trivial, c0⟩, c1⟩, c2⟩, c3⟩, c4⟩, c5⟩, c6⟩, c7⟩, c8⟩⟩⟩
theorem rchk_r24 (k : Int) (n a b c d : List UInt8) (v : Nat) (ph : Int) (c0 : (!rrow_6 k) = false) (c1 : (!rname_1 n) = false) (c2 : (!decide (rname_0 n = k)) = false) (c3 : (!rnode_0 a) = false) (c4 : (!rnode_0 b) = true) : Sx.PureP (Sx.AV.int false IntKind.i64 (8 : Int)) (call3 39 [.agg [.int true .u8 k, .str true n, .str true a, .str true b, .str true c, .str true d, .raw true v, .int true .i64 ph]] (Sx.G.on [false, false, false, false, true])) := by
 have e : Sx.pureP (Sx.AV.int false IntKind.i64 (8 : Int)) (call3 39 [.agg [.int true .u8 k, .str true n, .str true a, .str true b, .str true c, .str true d, .raw true v, .int true .i64 ph]] (Sx.G.on [false, false, false, false, true])) = ((Sx.AV.int false IntKind.i64 (8 : Int)) = (Sx.AV.int false IntKind.i64 (8 : Int)) ∧ (((((True ∧ ((!rrow_6 k) = false)) ∧ ((!rname_1 n) = false)) ∧ ((!decide (rname_0 n = k)) = false)) ∧ ((!rnode_0 a) = false)) ∧ ((!rnode_0 b) = true))) := by kernel_rfl
 exact ⟨by rw [e]; exact ⟨rfl, ⟨⟨⟨⟨⟨trivial, c0⟩, c1⟩, c2⟩, c3⟩, c4⟩⟩⟩
theorem rchk_r25 (k : Int) (n a b c d : List UInt8) (v : Nat) (ph : Int) (c0 : (!rrow_6 k) = false) (c1 : (!rname_1 n) = false) (c2 : (!decide (rname_0 n = k)) = false) (c3 : (!rnode_0 a) = true) : Sx.PureP (Sx.AV.int false IntKind.i64 (8 : Int)) (call3 39 [.agg [.int true .u8 k, .str true n, .str true a, .str true b, .str true c, .str true d, .raw true v, .int true .i64 ph]] (Sx.G.on [false, false, false, true])) := by
 have e : Sx.pureP (Sx.AV.int false IntKind.i64 (8 : Int)) (call3 39 [.agg [.int true .u8 k, .str true n, .str true a, .str true b, .str true c, .str true d, .raw true v, .int true .i64 ph]] (Sx.G.on [false, false, false, true])) = ((Sx.AV.int false IntKind.i64 (8 : Int)) = (Sx.AV.int false IntKind.i64 (8 : Int)) ∧ ((((True ∧ ((!rrow_6 k) = false)) ∧ ((!rname_1 n) = false)) ∧ ((!decide (rname_0 n = k)) = false)) ∧ ((!rnode_0 a) = true))) := by kernel_rfl
 exact ⟨by rw [e]; exact ⟨rfl, ⟨⟨⟨⟨trivial, c0⟩, c1⟩, c2⟩, c3⟩⟩⟩
theorem rchk_r26 (k : Int) (n a b c d : List UInt8) (v : Nat) (ph : Int) (c0 : (!rrow_6 k) = false) (c1 : (!rname_1 n) = false) (c2 : (!decide (rname_0 n = k)) = true) : Sx.PureP (Sx.AV.int false IntKind.i64 (8 : Int)) (call3 39 [.agg [.int true .u8 k, .str true n, .str true a, .str true b, .str true c, .str true d, .raw true v, .int true .i64 ph]] (Sx.G.on [false, false, true])) := by
 have e : Sx.pureP (Sx.AV.int false IntKind.i64 (8 : Int)) (call3 39 [.agg [.int true .u8 k, .str true n, .str true a, .str true b, .str true c, .str true d, .raw true v, .int true .i64 ph]] (Sx.G.on [false, false, true])) = ((Sx.AV.int false IntKind.i64 (8 : Int)) = (Sx.AV.int false IntKind.i64 (8 : Int)) ∧ (((True ∧ ((!rrow_6 k) = false)) ∧ ((!rname_1 n) = false)) ∧ ((!decide (rname_0 n = k)) = true))) := by kernel_rfl
 exact ⟨by rw [e]; exact ⟨rfl, ⟨⟨⟨trivial, c0⟩, c1⟩, c2⟩⟩⟩
theorem rchk_r27 (k : Int) (n a b c d : List UInt8) (v : Nat) (ph : Int) (c0 : (!rrow_6 k) = false) (c1 : (!rname_1 n) = true) : Sx.PureP (Sx.AV.int false IntKind.i64 (8 : Int)) (call3 39 [.agg [.int true .u8 k, .str true n, .str true a, .str true b, .str true c, .str true d, .raw true v, .int true .i64 ph]] (Sx.G.on [false, true])) := by
 have e : Sx.pureP (Sx.AV.int false IntKind.i64 (8 : Int)) (call3 39 [.agg [.int true .u8 k, .str true n, .str true a, .str true b, .str true c, .str true d, .raw true v, .int true .i64 ph]] (Sx.G.on [false, true])) = ((Sx.AV.int false IntKind.i64 (8 : Int)) = (Sx.AV.int false IntKind.i64 (8 : Int)) ∧ ((True ∧ ((!rrow_6 k) = false)) ∧ ((!rname_1 n) = true))) := by kernel_rfl
 exact ⟨by rw [e]; exact ⟨rfl, ⟨⟨trivial, c0⟩, c1⟩⟩⟩
theorem rchk_r28 (k : Int) (n a b c d : List UInt8) (v : Nat) (ph : Int) (c0 : (!rrow_6 k) = true) : Sx.PureP (Sx.AV.int false IntKind.i64 (2 : Int)) (call3 39 [.agg [.int true .u8 k, .str true n, .str true a, .str true b, .str true c, .str true d, .raw true v, .int true .i64 ph]] (Sx.G.on [true])) := by
 have e : Sx.pureP (Sx.AV.int false IntKind.i64 (2 : Int)) (call3 39 [.agg [.int true .u8 k, .str true n, .str true a, .str true b, .str true c, .str true d, .raw true v, .int true .i64 ph]] (Sx.G.on [true])) = ((Sx.AV.int false IntKind.i64 (2 : Int)) = (Sx.AV.int false IntKind.i64 (2 : Int)) ∧ (True ∧ ((!rrow_6 k) = true))) := by kernel_rfl
 exact ⟨by rw [e]; exact ⟨rfl, ⟨trivial, c0⟩⟩⟩
noncomputable def rchk_0 (k : Int) (n a b c d : List UInt8) (v : Nat) (ph : Int) : Int := (bif rrow_6 k then (bif rname_1 n then (bif decide (rname_0 n = k) then (bif rnode_0 a then (bif rnode_0 b then (bif rrow_5 k then (bif rnode_0 c then (bif rnode_0 d then (bif a == b then ((2 : Int)) else (bif rrow_4 k then (bif decide ((2 : Int) < rkind_0 v) then ((5 : Int)) else (bif rrow_3 k then (bif Sx.fgt (Sx.cn v) (Sx.cn (0 : Nat)) then ((0 : Int)) else ((2 : Int))) else ((0 : Int)))) else (bif decide (ph = (0 : Int)) then (bif decide ((2 : Int) < rkind_0 v) then ((5 : Int)) else (bif rrow_3 k then (bif Sx.fgt (Sx.cn v) (Sx.cn (0 : Nat)) then ((0 : Int)) else ((2 : Int))) else ((0 : Int)))) else ((2 : Int))))) else ((8 : Int))) else ((8 : Int))) else (bif a == b then ((2 : Int)) else (bif c == [] then (bif d == [] then (bif rrow_4 k then (bif decide ((2 : Int) < rkind_0 v) then ((5 : Int)) else (bif rrow_3 k then (bif Sx.fgt (Sx.cn v) (Sx.cn (0 : Nat)) then ((0 : Int)) else ((2 : Int))) else ((0 : Int)))) else (bif decide (ph = (0 : Int)) then (bif decide ((2 : Int) < rkind_0 v) then ((5 : Int)) else (bif rrow_3 k then (bif Sx.fgt (Sx.cn v) (Sx.cn (0 : Nat)) then ((0 : Int)) else ((2 : Int))) else ((0 : Int)))) else ((2 : Int)))) else ((2 : Int))) else ((2 : Int))))) else ((8 : Int))) else ((8 : Int))) else ((8 : Int))) else ((8 : Int))) else ((2 : Int)))
noncomputable def rchkS : List Sx.AV → Sx.M Sx.AV
 | [.agg [.int s0 .u8 k, .str s1 n, .str s2 a, .str s3 b, .str s4 c, .str s5 d, .raw s6 v, .int s7 .i64 ph]] => Sx.M.ret (Sx.AV.int (Bool.or s0 (Bool.or s1 (Bool.or s2 (Bool.or s3 (Bool.or s4 (Bool.or s5 (Bool.or s6 s7))))))) (IntKind.i64) (rchk_0 k n a b c d v ph))
 | args => call3 39 args
theorem rchkS_ok : ∀ args v g g', rchkS args g = .done v g' → Sx.CallIs Try.prog 39 args v g g' := by
 intro args v g g' h
 unfold rchkS at h
 split at h
 ·rename_i s0 k s1 n s2 a s3 b s4 c s5 d s6 v s7 ph
  obtain ⟨rfl, rfl⟩ := Sx.ret_done h
  refine Sx.scal call3_ok fun μ cargs ha => ?_
  have ha' : Sx.Reps 0 Sx.MM.none [.agg [.int true .u8 k, .str true n, .str true a, .str true b, .str true c, .str true d, .raw true v, .int true .i64 ph]] cargs.toList := by simpa only [Sx.Reps, Sx.Rep] using ha
  cases t0 : rrow_6 k with
  | true =>
   cases t1 : rname_1 n with
   | true =>
    cases t2 : decide (rname_0 n = k) with
    | true =>
     cases t3 : rnode_0 a with
     | true =>
      cases t4 : rnode_0 b with
      | true =>
       cases t5 : rrow_5 k with
       | true =>
        cases t6 : rnode_0 c with
        | true =>
         cases t7 : rnode_0 d with
         | true =>
          cases t8 : a == b with
          | true =>
           exact ⟨_, _, _, ha', rchk_r0 k n a b c d v ph (by rw [t0]; rfl) (by rw [t1]; rfl) (by rw [t2]; rfl) (by rw [t3]; rfl) (by rw [t4]; rfl) t5 (by rw [t6]; rfl) (by rw [t7]; rfl) t8, rfl, fun cv hc => by have := hc g.nx μ; have e0 : rchk_0 k n a b c d v ph = ((2 : Int)) := (Sx.ct t0).trans ((Sx.ct t1).trans ((Sx.ct t2).trans ((Sx.ct t3).trans ((Sx.ct t4).trans ((Sx.ct t5).trans ((Sx.ct t6).trans ((Sx.ct t7).trans ((Sx.ct t8).trans (rfl))))))))); rw [e0]; simpa only [Sx.Rep, Sx.Reps, Sx.Rep_cmpB] using this⟩
          | false =>
           cases t9 : rrow_4 k with
           | true =>
            cases t10 : decide ((2 : Int) < rkind_0 v) with
            | true =>
             exact ⟨_, _, _, ha', rchk_r1 k n a b c d v ph (by rw [t0]; rfl) (by rw [t1]; rfl) (by rw [t2]; rfl) (by rw [t3]; rfl) (by rw [t4]; rfl) t5 (by rw [t6]; rfl) (by rw [t7]; rfl) t8 (by rw [t5]; rfl) (by rw [t9]; rfl) t10, rfl, fun cv hc => by have := hc g.nx μ; have e0 : rchk_0 k n a b c d v ph = ((5 : Int)) := (Sx.ct t0).trans ((Sx.ct t1).trans ((Sx.ct t2).trans ((Sx.ct t3).trans ((Sx.ct t4).trans ((Sx.ct t5).trans ((Sx.ct t6).trans ((Sx.ct t7).trans ((Sx.cf t8).trans ((Sx.ct t9).trans ((Sx.ct t10).trans (rfl))))))))))); rw [e0]; simpa only [Sx.Rep, Sx.Reps, Sx.Rep_cmpB] using this⟩
            | false =>
             cases t11 : rrow_3 k with
             | true =>
              cases t12 : Sx.fgt (Sx.cn v) (Sx.cn (0 : Nat)) with
              | true =>
               exact ⟨_, _, _, ha', rchk_r2 k n a b c d v ph (by rw [t0]; rfl) (by rw [t1]; rfl) (by rw [t2]; rfl) (by rw [t3]; rfl) (by rw [t4]; rfl) t5 (by rw [t6]; rfl) (by rw [t7]; rfl) t8 (by rw [t5]; rfl) (by rw [t9]; rfl) t10 t11 (by rw [t12]; rfl), rfl, fun cv hc => by have := hc g.nx μ; have e0 : rchk_0 k n a b c d v ph = ((0 : Int)) := (Sx.ct t0).trans ((Sx.ct t1).trans ((Sx.ct t2).trans ((Sx.ct t3).trans ((Sx.ct t4).trans ((Sx.ct t5).trans ((Sx.ct t6).trans ((Sx.ct t7).trans ((Sx.cf t8).trans ((Sx.ct t9).trans ((Sx.cf t10).trans ((Sx.ct t11).trans ((Sx.ct t12).trans (rfl))))))))))))); rw [e0]; simpa only [Sx.Rep, Sx.Reps, Sx.Rep_cmpB] using this⟩
              | false =>
               exact ⟨_, _, _, ha', rchk_r3 k n a b c d v ph (by rw [t0]; rfl) (by rw [t1]; rfl) (by rw [t2]; rfl) (by rw [t3]; rfl) (by rw [t4]; rfl) t5 (by rw [t6]; rfl) (by rw [t7]; rfl) t8 (by rw [t5]; rfl) (by rw [t9]; rfl) t10 t11 (by rw [t12]; rfl), rfl, fun cv hc => by have := hc g.nx μ; have e0 : rchk_0 k n a b c d v ph = ((2 : Int)) := (Sx.ct t0).trans ((Sx.ct t1).trans ((Sx.ct t2).trans ((Sx.ct t3).trans ((Sx.ct t4).trans ((Sx.ct t5).trans ((Sx.ct t6).trans ((Sx.ct t7).trans ((Sx.cf t8).trans ((Sx.ct t9).trans ((Sx.cf t10).trans ((Sx.ct t11).trans ((Sx.cf t12).trans (rfl))))))))))))); rw [e0]; simpa only [Sx.Rep, Sx.Reps, Sx.Rep_cmpB] using this⟩
             | false =>
              exact ⟨_, _, _, ha', rchk_r4 k n a b c d v ph (by rw [t0]; rfl) (by rw [t1]; rfl) (by rw [t2]; rfl) (by rw [t3]; rfl) (by rw [t4]; rfl) t5 (by rw [t6]; rfl) (by rw [t7]; rfl) t8 (by rw [t5]; rfl) (by rw [t9]; rfl) t10 t11, rfl, fun cv hc => by have := hc g.nx μ; have e0 : rchk_0 k n a b c d v ph = ((0 : Int)) := (Sx.ct t0).trans ((Sx.ct t1).trans ((Sx.ct t2).trans ((Sx.ct t3).trans ((Sx.ct t4).trans ((Sx.ct t5).trans ((Sx.ct t6).trans ((Sx.ct t7).trans ((Sx.cf t8).trans ((Sx.ct t9).trans ((Sx.cf t10).trans ((Sx.cf t11).trans (rfl)))))))))))); rw [e0]; simpa only [Sx.Rep, Sx.Reps, Sx.Rep_cmpB] using this⟩
           | false =>
            cases t10 : decide (ph = (0 : Int)) with
            | true =>
             cases t11 : decide ((2 : Int) < rkind_0 v) with
             | true =>
              exact ⟨_, _, _, ha', rchk_r5 k n a b c d v ph (by rw [t0]; rfl) (by rw [t1]; rfl) (by rw [t2]; rfl) (by rw [t3]; rfl) (by rw [t4]; rfl) t5 (by rw [t6]; rfl) (by rw [t7]; rfl) t8 (by rw [t5]; rfl) (by rw [t9]; rfl) (by rw [t10]; rfl) t11, rfl, fun cv hc => by have := hc g.nx μ; have e0 : rchk_0 k n a b c d v ph = ((5 : Int)) := (Sx.ct t0).trans ((Sx.ct t1).trans ((Sx.ct t2).trans ((Sx.ct t3).trans ((Sx.ct t4).trans ((Sx.ct t5).trans ((Sx.ct t6).trans ((Sx.ct t7).trans ((Sx.cf t8).trans ((Sx.cf t9).trans ((Sx.ct t10).trans ((Sx.ct t11).trans (rfl)))))))))))); rw [e0]; simpa only [Sx.Rep, Sx.Reps, Sx.Rep_cmpB] using this⟩
             | false =>
              cases t12 : rrow_3 k with
              | true =>
               cases t13 : Sx.fgt (Sx.cn v) (Sx.cn (0 : Nat)) with
               | true =>
                exact ⟨_, _, _, ha', rchk_r6 k n a b c d v ph (by rw [t0]; rfl) (by rw [t1]; rfl) (by rw [t2]; rfl) (by rw [t3]; rfl) (by rw [t4]; rfl) t5 (by rw [t6]; rfl) (by rw [t7]; rfl) t8 (by rw [t5]; rfl) (by rw [t9]; rfl) (by rw [t10]; rfl) t11 t12 (by rw [t13]; rfl), rfl, fun cv hc => by have := hc g.nx μ; have e0 : rchk_0 k n a b c d v ph = ((0 : Int)) := (Sx.ct t0).trans ((Sx.ct t1).trans ((Sx.ct t2).trans ((Sx.ct t3).trans ((Sx.ct t4).trans ((Sx.ct t5).trans ((Sx.ct t6).trans ((Sx.ct t7).trans ((Sx.cf t8).trans ((Sx.cf t9).trans ((Sx.ct t10).trans ((Sx.cf t11).trans ((Sx.ct t12).trans ((Sx.ct t13).trans (rfl)))))))))))))); rw [e0]; simpa only [Sx.Rep, Sx.Reps, Sx.Rep_cmpB] using this⟩
               | false =>
                exact ⟨_, _, _, ha', rchk_r7 k n a b c d v ph (by rw [t0]; rfl) (by rw [t1]; rfl) (by rw [t2]; rfl) (by rw [t3]; rfl) (by rw [t4]; rfl) t5 (by rw [t6]; rfl) (by rw [t7]; rfl) t8 (by rw [t5]; rfl) (by rw [t9]; rfl) (by rw [t10]; rfl) t11 t12 (by rw [t13]; rfl), rfl, fun cv hc => by have := hc g.nx μ; have e0 : rchk_0 k n a b c d v ph = ((2 : Int)) := (Sx.ct t0).trans ((Sx.ct t1).trans ((Sx.ct t2).trans ((Sx.ct t3).trans ((Sx.ct t4).trans ((Sx.ct t5).trans ((Sx.ct t6).trans ((Sx.ct t7).trans ((Sx.cf t8).trans ((Sx.cf t9).trans ((Sx.ct t10).trans ((Sx.cf t11).trans ((Sx.ct t12).trans ((Sx.cf t13).trans (rfl)))))))))))))); rw [e0]; simpa only [Sx.Rep, Sx.Reps, Sx.Rep_cmpB] using this⟩
              | false =>
               exact ⟨_, _, _, ha', rchk_r8 k n a b c d v ph (by rw [t0]; rfl) (by rw [t1]; rfl) (by rw [t2]; rfl) (by rw [t3]; rfl) (by rw [t4]; rfl) t5 (by rw [t6]; rfl) (by rw [t7]; rfl) t8 (by rw [t5]; rfl) (by rw [t9]; rfl) (by rw [t10]; rfl) t11 t12, rfl, fun cv hc => by have := hc g.nx μ; have e0 : rchk_0 k n a b c d v ph = ((0 : Int)) := (Sx.ct t0).trans ((Sx.ct t1).trans ((Sx.ct t2).trans ((Sx.ct t3).trans ((Sx.ct t4).trans ((Sx.ct t5).trans ((Sx.ct t6).trans ((Sx.ct t7).trans ((Sx.cf t8).trans ((Sx.cf t9).trans ((Sx.ct t10).trans ((Sx.cf t11).trans ((Sx.cf t12).trans (rfl))))))))))))); rw [e0]; simpa only [Sx.Rep, Sx.Reps, Sx.Rep_cmpB] using this⟩
            | false =>
             exact ⟨_, _, _, ha', rchk_r9 k n a b c d v ph (by rw [t0]; rfl) (by rw [t1]; rfl) (by rw [t2]; rfl) (by rw [t3]; rfl) (by rw [t4]; rfl) t5 (by rw [t6]; rfl) (by rw [t7]; rfl) t8 (by rw [t5]; rfl) (by rw [t9]; rfl) (by rw [t10]; rfl), rfl, fun cv hc => by have := hc g.nx μ; have e0 : rchk_0 k n a b c d v ph = ((2 : Int)) := (Sx.ct t0).trans ((Sx.ct t1).trans ((Sx.ct t2).trans ((Sx.ct t3).trans ((Sx.ct t4).trans ((Sx.ct t5).trans ((Sx.ct t6).trans ((Sx.ct t7).trans ((Sx.cf t8).trans ((Sx.cf t9).trans ((Sx.cf t10).trans (rfl))))))))))); rw [e0]; simpa only [Sx.Rep, Sx.Reps, Sx.Rep_cmpB] using this⟩
         | false =>
          exact ⟨_, _, _, ha', rchk_r10 k n a b c d v ph (by rw [t0]; rfl) (by rw [t1]; rfl) (by rw [t2]; rfl) (by rw [t3]; rfl) (by rw [t4]; rfl) t5 (by rw [t6]; rfl) (by rw [t7]; rfl), rfl, fun cv hc => by have := hc g.nx μ; have e0 : rchk_0 k n a b c d v ph = ((8 : Int)) := (Sx.ct t0).trans ((Sx.ct t1).trans ((Sx.ct t2).trans ((Sx.ct t3).trans ((Sx.ct t4).trans ((Sx.ct t5).trans ((Sx.ct t6).trans ((Sx.cf t7).trans (rfl)))))))); rw [e0]; simpa only [Sx.Rep, Sx.Reps, Sx.Rep_cmpB] using this⟩
        | false =>
         exact ⟨_, _, _, ha', rchk_r11 k n a b c d v ph (by rw [t0]; rfl) (by rw [t1]; rfl) (by rw [t2]; rfl) (by rw [t3]; rfl) (by rw [t4]; rfl) t5 (by rw [t6]; rfl), rfl, fun cv hc => by have := hc g.nx μ; have e0 : rchk_0 k n a b c d v ph = ((8 : Int)) := (Sx.ct t0).trans ((Sx.ct t1).trans ((Sx.ct t2).trans ((Sx.ct t3).trans ((Sx.ct t4).trans ((Sx.ct t5).trans ((Sx.cf t6).trans (rfl))))))); rw [e0]; simpa only [Sx.Rep, Sx.Reps, Sx.Rep_cmpB] using this⟩
       | false =>
        cases t6 : a == b with
        | true =>
         exact ⟨_, _, _, ha', rchk_r12 k n a b c d v ph (by rw [t0]; rfl) (by rw [t1]; rfl) (by rw [t2]; rfl) (by rw [t3]; rfl) (by rw [t4]; rfl) t5 t6, rfl, fun cv hc => by have := hc g.nx μ; have e0 : rchk_0 k n a b c d v ph = ((2 : Int)) := (Sx.ct t0).trans ((Sx.ct t1).trans ((Sx.ct t2).trans ((Sx.ct t3).trans ((Sx.ct t4).trans ((Sx.cf t5).trans ((Sx.ct t6).trans (rfl))))))); rw [e0]; simpa only [Sx.Rep, Sx.Reps, Sx.Rep_cmpB] using this⟩
        | false =>
         cases t7 : c == [] with
         | true =>
          cases t8 : d == [] with
          | true =>
           cases t9 : rrow_4 k with
           | true =>
            cases t10 : decide ((2 : Int) < rkind_0 v) with
            | true =>
             exact ⟨_, _, _, ha', rchk_r13 k n a b c d v ph (by rw [t0]; rfl) (by rw [t1]; rfl) (by rw [t2]; rfl) (by rw [t3]; rfl) (by rw [t4]; rfl) t5 t6 (by rw [t5]; rfl) (by rw [t7]; rfl) (by rw [t8]; rfl) (by rw [t9]; rfl) t10, rfl, fun cv hc => by have := hc g.nx μ; have e0 : rchk_0 k n a b c d v ph = ((5 : Int)) := (Sx.ct t0).trans ((Sx.ct t1).trans ((Sx.ct t2).trans ((Sx.ct t3).trans ((Sx.ct t4).trans ((Sx.cf t5).trans ((Sx.cf t6).trans ((Sx.ct t7).trans ((Sx.ct t8).trans ((Sx.ct t9).trans ((Sx.ct t10).trans (rfl))))))))))); rw [e0]; simpa only [Sx.Rep, Sx.Reps, Sx.Rep_cmpB] using this⟩
            | false =>
             cases t11 : rrow_3 k with
             | true =>
              cases t12 : Sx.fgt (Sx.cn v) (Sx.cn (0 : Nat)) with
              | true =>
               exact ⟨_, _, _, ha', rchk_r14 k n a b c d v ph (by rw [t0]; rfl) (by rw [t1]; rfl) (by rw [t2]; rfl) (by rw [t3]; rfl) (by rw [t4]; rfl) t5 t6 (by rw [t5]; rfl) (by rw [t7]; rfl) (by rw [t8]; rfl) (by rw [t9]; rfl) t10 t11 (by rw [t12]; rfl), rfl, fun cv hc => by have := hc g.nx μ; have e0 : rchk_0 k n a b c d v ph = ((0 : Int)) := (Sx.ct t0).trans ((Sx.ct t1).trans ((Sx.ct t2).trans ((Sx.ct t3).trans ((Sx.ct t4).trans ((Sx.cf t5).trans ((Sx.cf t6).trans ((Sx.ct t7).trans ((Sx.ct t8).trans ((Sx.ct t9).trans ((Sx.cf t10).trans ((Sx.ct t11).trans ((Sx.ct t12).trans (rfl))))))))))))); rw [e0]; simpa only [Sx.Rep, Sx.Reps, Sx.Rep_cmpB] using this⟩
              | false =>
               exact ⟨_, _, _, ha', rchk_r15 k n a b c d v ph (by rw [t0]; rfl) (by rw [t1]; rfl) (by rw [t2]; rfl) (by rw [t3]; rfl) (by rw [t4]; rfl) t5 t6 (by rw [t5]; rfl) (by rw [t7]; rfl) (by rw [t8]; rfl) (by rw [t9]; rfl) t10 t11 (by rw [t12]; rfl), rfl, fun cv hc => by have := hc g.nx μ; have e0 : rchk_0 k n a b c d v ph = ((2 : Int)) := (Sx.ct t0).trans ((Sx.ct t1).trans ((Sx.ct t2).trans ((Sx.ct t3).trans ((Sx.ct t4).trans ((Sx.cf t5).trans ((Sx.cf t6).trans ((Sx.ct t7).trans ((Sx.ct t8).trans ((Sx.ct t9).trans ((Sx.cf t10).trans ((Sx.ct t11).trans ((Sx.cf t12).trans (rfl))))))))))))); rw [e0]; simpa only [Sx.Rep, Sx.Reps, Sx.Rep_cmpB] using this⟩
             | false =>
              exact ⟨_, _, _, ha', rchk_r16 k n a b c d v ph (by rw [t0]; rfl) (by rw [t1]; rfl) (by rw [t2]; rfl) (by rw [t3]; rfl) (by rw [t4]; rfl) t5 t6 (by rw [t5]; rfl) (by rw [t7]; rfl) (by rw [t8]; rfl) (by rw [t9]; rfl) t10 t11, rfl, fun cv hc => by have := hc g.nx μ; have e0 : rchk_0 k n a b c d v ph = ((0 : Int)) := (Sx.ct t0).trans ((Sx.ct t1).trans ((Sx.ct t2).trans ((Sx.ct t3).trans ((Sx.ct t4).trans ((Sx.cf t5).trans ((Sx.cf t6).trans ((Sx.ct t7).trans ((Sx.ct t8).trans ((Sx.ct t9).trans ((Sx.cf t10).trans ((Sx.cf t11).trans (rfl)))))))))))); rw [e0]; simpa only [Sx.Rep, Sx.Reps, Sx.Rep_cmpB] using this⟩
           | false =>
            cases t10 : decide (ph = (0 : Int)) with
            | true =>
             cases t11 : decide ((2 : Int) < rkind_0 v) with
             | true =>
              exact ⟨_, _, _, ha', rchk_r17 k n a b c d v ph (by rw [t0]; rfl) (by rw [t1]; rfl) (by rw [t2]; rfl) (by rw [t3]; rfl) (by rw [t4]; rfl) t5 t6 (by rw [t5]; rfl) (by rw [t7]; rfl) (by rw [t8]; rfl) (by rw [t9]; rfl) (by rw [t10]; rfl) t11, rfl, fun cv hc => by have := hc g.nx μ; have e0 : rchk_0 k n a b c d v ph = ((5 : Int)) := (Sx.ct t0).trans ((Sx.ct t1).trans ((Sx.ct t2).trans ((Sx.ct t3).trans ((Sx.ct t4).trans ((Sx.cf t5).trans ((Sx.cf t6).trans ((Sx.ct t7).trans ((Sx.ct t8).trans ((Sx.cf t9).trans ((Sx.ct t10).trans ((Sx.ct t11).trans (rfl)))))))))))); rw [e0]; simpa only [Sx.Rep, Sx.Reps, Sx.Rep_cmpB] using this⟩
             | false =>
              cases t12 : rrow_3 k with
              | true =>
               cases t13 : Sx.fgt (Sx.cn v) (Sx.cn (0 : Nat)) with
               | true =>
                exact ⟨_, _, _, ha', rchk_r18 k n a b c d v ph (by rw [t0]; rfl) (by rw [t1]; rfl) (by rw [t2]; rfl) (by rw [t3]; rfl) (by rw [t4]; rfl) t5 t6 (by rw [t5]; rfl) (by rw [t7]; rfl) (by rw [t8]; rfl) (by rw [t9]; rfl) (by rw [t10]; rfl) t11 t12 (by rw [t13]; rfl), rfl, fun cv hc => by have := hc g.nx μ; have e0 : rchk_0 k n a b c d v ph = ((0 : Int)) := (Sx.ct t0).trans ((Sx.ct t1).trans ((Sx.ct t2).trans ((Sx.ct t3).trans ((Sx.ct t4).trans ((Sx.cf t5).trans ((Sx.cf t6).trans ((Sx.ct t7).trans ((Sx.ct t8).trans ((Sx.cf t9).trans ((Sx.ct t10).trans ((Sx.cf t11).trans ((Sx.ct t12).trans ((Sx.ct t13).trans (rfl)))))))))))))); rw [e0]; simpa only [Sx.Rep, Sx.Reps, Sx.Rep_cmpB] using this⟩
               | false =>
                exact ⟨_, _, _, ha', rchk_r19 k n a b c d v ph (by rw [t0]; rfl) (by rw [t1]; rfl) (by rw [t2]; rfl) (by rw [t3]; rfl) (by rw [t4]; rfl) t5 t6 (by rw [t5]; rfl) (by rw [t7]; rfl) (by rw [t8]; rfl) (by rw [t9]; rfl) (by rw [t10]; rfl) t11 t12 (by rw [t13]; rfl), rfl, fun cv hc => by have := hc g.nx μ; have e0 : rchk_0 k n a b c d v ph = ((2 : Int)) := (Sx.ct t0).trans ((Sx.ct t1).trans ((Sx.ct t2).trans ((Sx.ct t3).trans ((Sx.ct t4).trans ((Sx.cf t5).trans ((Sx.cf t6).trans ((Sx.ct t7).trans ((Sx.ct t8).trans ((Sx.cf t9).trans ((Sx.ct t10).trans ((Sx.cf t11).trans ((Sx.ct t12).trans ((Sx.cf t13).trans (rfl)))))))))))))); rw [e0]; simpa only [Sx.Rep, Sx.Reps, Sx.Rep_cmpB] using this⟩
              | false =>
               exact ⟨_, _, _, ha', rchk_r20 k n a b c d v ph (by rw [t0]; rfl) (by rw [t1]; rfl) (by rw [t2]; rfl) (by rw [t3]; rfl) (by rw [t4]; rfl) t5 t6 (by rw [t5]; rfl) (by rw [t7]; rfl) (by rw [t8]; rfl) (by rw [t9]; rfl) (by rw [t10]; rfl) t11 t12, rfl, fun cv hc => by have := hc g.nx μ; have e0 : rchk_0 k n a b c d v ph = ((0 : Int)) := (Sx.ct t0).trans ((Sx.ct t1).trans ((Sx.ct t2).trans ((Sx.ct t3).trans ((Sx.ct t4).trans ((Sx.cf t5).trans ((Sx.cf t6).trans ((Sx.ct t7).trans ((Sx.ct t8).trans ((Sx.cf t9).trans ((Sx.ct t10).trans ((Sx.cf t11).trans ((Sx.cf t12).trans (rfl))))))))))))); rw [e0]; simpa only [Sx.Rep, Sx.Reps, Sx.Rep_cmpB] using this⟩
            | false =>
             exact ⟨_, _, _, ha', rchk_r21 k n a b c d v ph (by rw [t0]; rfl) (by rw [t1]; rfl) (by rw [t2]; rfl) (by rw [t3]; rfl) (by rw [t4]; rfl) t5 t6 (by rw [t5]; rfl) (by rw [t7]; rfl) (by rw [t8]; rfl) (by rw [t9]; rfl) (by rw [t10]; rfl), rfl, fun cv hc => by have := hc g.nx μ; have e0 : rchk_0 k n a b c d v ph = ((2 : Int)) := (Sx.ct t0).trans ((Sx.ct t1).trans ((Sx.ct t2).trans ((Sx.ct t3).trans ((Sx.ct t4).trans ((Sx.cf t5).trans ((Sx.cf t6).trans ((Sx.ct t7).trans ((Sx.ct t8).trans ((Sx.cf t9).trans ((Sx.cf t10).trans (rfl))))))))))); rw [e0]; simpa only [Sx.Rep, Sx.Reps, Sx.Rep_cmpB] using this⟩
          | false =>
           exact ⟨_, _, _, ha', rchk_r22 k n a b c d v ph (by rw [t0]; rfl) (by rw [t1]; rfl) (by rw [t2]; rfl) (by rw [t3]; rfl) (by rw [t4]; rfl) t5 t6 (by rw [t5]; rfl) (by rw [t7]; rfl) (by rw [t8]; rfl), rfl, fun cv hc => by have := hc g.nx μ; have e0 : rchk_0 k n a b c d v ph = ((2 : Int)) := (Sx.ct t0).trans ((Sx.ct t1).trans ((Sx.ct t2).trans ((Sx.ct t3).trans ((Sx.ct t4).trans ((Sx.cf t5).trans ((Sx.cf t6).trans ((Sx.ct t7).trans ((Sx.cf t8).trans (rfl))))))))); rw [e0]; simpa only [Sx.Rep, Sx.Reps, Sx.Rep_cmpB] using this⟩
         | false =>
          exact ⟨_, _, _, ha', rchk_r23 k n a b c d v ph (by rw [t0]; rfl) (by rw [t1]; rfl) (by rw [t2]; rfl) (by rw [t3]; rfl) (by rw [t4]; rfl) t5 t6 (by rw [t5]; rfl) (by rw [t7]; rfl), rfl, fun cv hc => by have := hc g.nx μ; have e0 : rchk_0 k n a b c d v ph = ((2 : Int)) := (Sx.ct t0).trans ((Sx.ct t1).trans ((Sx.ct t2).trans ((Sx.ct t3).trans ((Sx.ct t4).trans ((Sx.cf t5).trans ((Sx.cf t6).trans ((Sx.cf t7).trans (rfl)))))))); rw [e0]; simpa only [Sx.Rep, Sx.Reps, Sx.Rep_cmpB] using this⟩
      | false =>
       exact ⟨_, _, _, ha', rchk_r24 k n a b c d v ph (by rw [t0]; rfl) (by rw [t1]; rfl) (by rw [t2]; rfl) (by rw [t3]; rfl) (by rw [t4]; rfl), rfl, fun cv hc => by have := hc g.nx μ; have e0 : rchk_0 k n a b c d v ph = ((8 : Int)) := (Sx.ct t0).trans ((Sx.ct t1).trans ((Sx.ct t2).trans ((Sx.ct t3).trans ((Sx.cf t4).trans (rfl))))); rw [e0]; simpa only [Sx.Rep, Sx.Reps, Sx.Rep_cmpB] using this⟩
     | false =>
      exact ⟨_, _, _, ha', rchk_r25 k n a b c d v ph (by rw [t0]; rfl) (by rw [t1]; rfl) (by rw [t2]; rfl) (by rw [t3]; rfl), rfl, fun cv hc => by have := hc g.nx μ; have e0 : rchk_0 k n a b c d v ph = ((8 : Int)) := (Sx.ct t0).trans ((Sx.ct t1).trans ((Sx.ct t2).trans ((Sx.cf t3).trans (rfl)))); rw [e0]; simpa only [Sx.Rep, Sx.Reps, Sx.Rep_cmpB] using this⟩
    | false =>
     exact ⟨_, _, _, ha', rchk_r26 k n a b c d v ph (by rw [t0]; rfl) (by rw [t1]; rfl) (by rw [t2]; rfl), rfl, fun cv hc => by have := hc g.nx μ; have e0 : rchk_0 k n a b c d v ph = ((8 : Int)) := (Sx.ct t0).trans ((Sx.ct t1).trans ((Sx.cf t2).trans (rfl))); rw [e0]; simpa only [Sx.Rep, Sx.Reps, Sx.Rep_cmpB] using this⟩
   | false =>
    exact ⟨_, _, _, ha', rchk_r27 k n a b c d v ph (by rw [t0]; rfl) (by rw [t1]; rfl), rfl, fun cv hc => by have := hc g.nx μ; have e0 : rchk_0 k n a b c d v ph = ((8 : Int)) := (Sx.ct t0).trans ((Sx.cf t1).trans (rfl)); rw [e0]; simpa only [Sx.Rep, Sx.Reps, Sx.Rep_cmpB] using this⟩
  | false =>
   exact ⟨_, _, _, ha', rchk_r28 k n a b c d v ph (by rw [t0]; rfl), rfl, fun cv hc => by have := hc g.nx μ; have e0 : rchk_0 k n a b c d v ph = ((2 : Int)) := (Sx.cf t0).trans (rfl); rw [e0]; simpa only [Sx.Rep, Sx.Reps, Sx.Rep_cmpB] using this⟩
 ·exact call3_ok _ _ _ _ _ h
theorem rchkS_tch : ∀ args, Sx.Tch (rchkS args) := by
 intro args
 unfold rchkS
 split
 ·exact Sx.Tch.ret _
 ·exact call3_tch _ _
noncomputable def gamE : Sx.Known := fun f => bif Nat.beq f 36 then some Sx.ofBits else (bif Nat.beq f 62 then some Sx.toBits else (bif Nat.beq f 81 then some smallS else (bif Nat.beq f 85 then some bytesS else (bif Nat.beq f 66 then some kindS else (bif Nat.beq f 72 then some rkindS else (bif Nat.beq f 63 then some rowOfS else (bif Nat.beq f 69 then some rrowS else (bif Nat.beq f 82 then some ofS else (bif Nat.beq f 86 then some rofS else (bif Nat.beq f 64 then some nameS else (bif Nat.beq f 70 then some rnameS else (bif Nat.beq f 65 then some nodeS else (bif Nat.beq f 71 then some rnodeS else (bif Nat.beq f 37 then some chkS else (bif Nat.beq f 39 then some rchkS else (none))))))))))))))))
theorem gamE_ok : Sx.KnownOk Try.prog gamE := by
 intro f s h
 unfold gamE at h
 cases h1 : Nat.beq f 36 with
 | true =>
  rw [h1] at h
  cases h
  cases Nat.eq_of_beq_eq_true h1
  exact (Sx.ofBits_is Try.prog).callIs Try.func36 (by kernel_rfl) (by kernel_rfl) (by kernel_rfl) (by kernel_rfl)
 | false =>
  rw [h1, cond_false] at h
  clear h1
  cases h1 : Nat.beq f 62 with
  | true =>
   rw [h1] at h
   cases h
   cases Nat.eq_of_beq_eq_true h1
   exact (Sx.toBits_is Try.prog).callIs Try.func62 (by kernel_rfl) (by kernel_rfl) (by kernel_rfl) (by kernel_rfl)
  | false =>
   rw [h1, cond_false] at h
   clear h1
   cases h1 : Nat.beq f 81 with
   | true =>
    rw [h1] at h
    cases h
    cases Nat.eq_of_beq_eq_true h1
    exact smallS_ok
   | false =>
    rw [h1, cond_false] at h
    clear h1
    cases h1 : Nat.beq f 85 with
    | true =>
     rw [h1] at h
     cases h
     cases Nat.eq_of_beq_eq_true h1
     exact bytesS_ok
    | false =>
     rw [h1, cond_false] at h
     clear h1
     cases h1 : Nat.beq f 66 with
     | true =>
      rw [h1] at h
      cases h
      cases Nat.eq_of_beq_eq_true h1
      exact kindS_ok
     | false =>
      rw [h1, cond_false] at h
      clear h1
      cases h1 : Nat.beq f 72 with
      | true =>
       rw [h1] at h
       cases h
       cases Nat.eq_of_beq_eq_true h1
       exact rkindS_ok
      | false =>
       rw [h1, cond_false] at h
       clear h1
       cases h1 : Nat.beq f 63 with
       | true =>
        rw [h1] at h
        cases h
        cases Nat.eq_of_beq_eq_true h1
        exact rowOfS_ok
       | false =>
        rw [h1, cond_false] at h
        clear h1
        cases h1 : Nat.beq f 69 with
        | true =>
         rw [h1] at h
         cases h
         cases Nat.eq_of_beq_eq_true h1
         exact rrowS_ok
        | false =>
         rw [h1, cond_false] at h
         clear h1
         cases h1 : Nat.beq f 82 with
         | true =>
          rw [h1] at h
          cases h
          cases Nat.eq_of_beq_eq_true h1
          exact ofS_ok
         | false =>
          rw [h1, cond_false] at h
          clear h1
          cases h1 : Nat.beq f 86 with
          | true =>
           rw [h1] at h
           cases h
           cases Nat.eq_of_beq_eq_true h1
           exact rofS_ok
          | false =>
           rw [h1, cond_false] at h
           clear h1
           cases h1 : Nat.beq f 64 with
           | true =>
            rw [h1] at h
            cases h
            cases Nat.eq_of_beq_eq_true h1
            exact nameS_ok
           | false =>
            rw [h1, cond_false] at h
            clear h1
            cases h1 : Nat.beq f 70 with
            | true =>
             rw [h1] at h
             cases h
             cases Nat.eq_of_beq_eq_true h1
             exact rnameS_ok
            | false =>
             rw [h1, cond_false] at h
             clear h1
             cases h1 : Nat.beq f 65 with
             | true =>
              rw [h1] at h
              cases h
              cases Nat.eq_of_beq_eq_true h1
              exact nodeS_ok
             | false =>
              rw [h1, cond_false] at h
              clear h1
              cases h1 : Nat.beq f 71 with
              | true =>
               rw [h1] at h
               cases h
               cases Nat.eq_of_beq_eq_true h1
               exact rnodeS_ok
              | false =>
               rw [h1, cond_false] at h
               clear h1
               cases h1 : Nat.beq f 37 with
               | true =>
                rw [h1] at h
                cases h
                cases Nat.eq_of_beq_eq_true h1
                exact chkS_ok
               | false =>
                rw [h1, cond_false] at h
                clear h1
                cases h1 : Nat.beq f 39 with
                | true =>
                 rw [h1] at h
                 cases h
                 cases Nat.eq_of_beq_eq_true h1
                 exact rchkS_ok
                | false =>
                 rw [h1, cond_false] at h
                 clear h1
                 cases h
theorem gamE_tch : Sx.KnownT gamE := by
 intro f s h
 unfold gamE at h
 cases h1 : Nat.beq f 36 with
 | true => rw [h1] at h; cases h; exact Sx.Tch.ofBits
 | false =>
  rw [h1, cond_false] at h
  clear h1
  cases h1 : Nat.beq f 62 with
  | true => rw [h1] at h; cases h; exact Sx.Tch.toBits
  | false =>
   rw [h1, cond_false] at h
   clear h1
   cases h1 : Nat.beq f 81 with
   | true => rw [h1] at h; cases h; exact smallS_tch
   | false =>
    rw [h1, cond_false] at h
    clear h1
    cases h1 : Nat.beq f 85 with
    | true => rw [h1] at h; cases h; exact bytesS_tch
    | false =>
     rw [h1, cond_false] at h
     clear h1
     cases h1 : Nat.beq f 66 with
     | true => rw [h1] at h; cases h; exact kindS_tch
     | false =>
      rw [h1, cond_false] at h
      clear h1
      cases h1 : Nat.beq f 72 with
      | true => rw [h1] at h; cases h; exact rkindS_tch
      | false =>
       rw [h1, cond_false] at h
       clear h1
       cases h1 : Nat.beq f 63 with
       | true => rw [h1] at h; cases h; exact rowOfS_tch
       | false =>
        rw [h1, cond_false] at h
        clear h1
        cases h1 : Nat.beq f 69 with
        | true => rw [h1] at h; cases h; exact rrowS_tch
        | false =>
         rw [h1, cond_false] at h
         clear h1
         cases h1 : Nat.beq f 82 with
         | true => rw [h1] at h; cases h; exact ofS_tch
         | false =>
          rw [h1, cond_false] at h
          clear h1
          cases h1 : Nat.beq f 86 with
          | true => rw [h1] at h; cases h; exact rofS_tch
          | false =>
           rw [h1, cond_false] at h
           clear h1
           cases h1 : Nat.beq f 64 with
           | true => rw [h1] at h; cases h; exact nameS_tch
           | false =>
            rw [h1, cond_false] at h
            clear h1
            cases h1 : Nat.beq f 70 with
            | true => rw [h1] at h; cases h; exact rnameS_tch
            | false =>
             rw [h1, cond_false] at h
             clear h1
             cases h1 : Nat.beq f 65 with
             | true => rw [h1] at h; cases h; exact nodeS_tch
             | false =>
              rw [h1, cond_false] at h
              clear h1
              cases h1 : Nat.beq f 71 with
              | true => rw [h1] at h; cases h; exact rnodeS_tch
              | false =>
               rw [h1, cond_false] at h
               clear h1
               cases h1 : Nat.beq f 37 with
               | true => rw [h1] at h; cases h; exact chkS_tch
               | false =>
                rw [h1, cond_false] at h
                clear h1
                cases h1 : Nat.beq f 39 with
                | true => rw [h1] at h; cases h; exact rchkS_tch
                | false =>
                 rw [h1, cond_false] at h
                 clear h1
                 cases h
noncomputable def callE : Sx.Calls' := Sx.runN Try.prog gamE (Sx.regionC Try.prog) 1000 50
theorem callE_ok : Sx.CallOk Try.prog callE := Sx.engineC gamE_ok gamE_tch (by kernel_rfl) (by kernel_rfl) 1000 50
theorem callE_tch : Sx.CallT callE := Sx.runA_tch gamE_tch (fun _ _ _ h => by cases h) (fun call hc n l fr => Sx.regionC_tch hc n l fr) 50
theorem callE_reg (n : Nat) : Sx.RegionOk Try.prog (Sx.regionC Try.prog callE n) n := Sx.runN_regionC gamE_ok gamE_tch (by kernel_rfl) (by kernel_rfl) 1000 50 n
noncomputable abbrev piececallE (f : Func) (c : Code) (fr : Sx.Fr) (H : Sx.T Sx.ABk) (K : Nat) (path : List Bool) : Sx.Res (Sx.Ex × Sx.Fr) :=
 Sx.codeA Try.prog callE (Sx.regionC Try.prog callE f.ntmps) Sx.noLoops f.ntmps 1000 c fr ⟨H, K, [], path, True⟩

theorem const_r0 (k : Int) (c0 : decide (k = (0 : Int)) = true) : Sx.PureP (Sx.AV.flt false (4607182418800017408 : Nat)) (callE 88 [.int true .i64 k] (Sx.G.on [true])) := Sx.eqq (q := (True ∧ (decide (k = (0 : Int)) = true))) (by kernel_rfl) ⟨trivial, c0⟩
theorem const_r1 (k : Int) (c0 : decide (k = (0 : Int)) = false) (c1 : decide (k = (1 : Int)) = true) : Sx.PureP (Sx.AV.raw false (4606875505927962389 : Nat)) (callE 88 [.int true .i64 k] (Sx.G.on [false, true])) := Sx.eqq (q := ((True ∧ (decide (k = (0 : Int)) = false)) ∧ (decide (k = (1 : Int)) = true))) (by kernel_rfl) ⟨⟨trivial, c0⟩, c1⟩
theorem const_r2 (k : Int) (c0 : decide (k = (0 : Int)) = false) (c1 : decide (k = (1 : Int)) = false) (c2 : decide (k = (2 : Int)) = true) : Sx.PureP (Sx.AV.raw false (4605975682916830378 : Nat)) (callE 88 [.int true .i64 k] (Sx.G.on [false, false, true])) := Sx.eqq (q := (((True ∧ (decide (k = (0 : Int)) = false)) ∧ (decide (k = (1 : Int)) = false)) ∧ (decide (k = (2 : Int)) = true))) (by kernel_rfl) ⟨⟨⟨trivial, c0⟩, c1⟩, c2⟩
theorem const_r3 (k : Int) (c0 : decide (k = (0 : Int)) = false) (c1 : decide (k = (1 : Int)) = false) (c2 : decide (k = (2 : Int)) = false) (c3 : decide (k = (3 : Int)) = true) : Sx.PureP (Sx.AV.raw false (4604544271217802189 : Nat)) (callE 88 [.int true .i64 k] (Sx.G.on [false, false, false, true])) := Sx.eqq (q := ((((True ∧ (decide (k = (0 : Int)) = false)) ∧ (decide (k = (1 : Int)) = false)) ∧ (decide (k = (2 : Int)) = false)) ∧ (decide (k = (3 : Int)) = true))) (by kernel_rfl) ⟨⟨⟨⟨trivial, c0⟩, c1⟩, c2⟩, c3⟩
theorem const_r4 (k : Int) (c0 : decide (k = (0 : Int)) = false) (c1 : decide (k = (1 : Int)) = false) (c2 : decide (k = (2 : Int)) = false) (c3 : decide (k = (3 : Int)) = false) (c4 : decide (k = (4 : Int)) = true) : Sx.PureP (Sx.AV.flt false (4602678819172646912 : Nat)) (callE 88 [.int true .i64 k] (Sx.G.on [false, false, false, false, true])) := Sx.eqq (q := (((((True ∧ (decide (k = (0 : Int)) = false)) ∧ (decide (k = (1 : Int)) = false)) ∧ (decide (k = (2 : Int)) = false)) ∧ (decide (k = (3 : Int)) = false)) ∧ (decide (k = (4 : Int)) = true))) (by kernel_rfl) ⟨⟨⟨⟨⟨trivial, c0⟩, c1⟩, c2⟩, c3⟩, c4⟩
theorem const_r5 (k : Int) (c0 : decide (k = (0 : Int)) = false) (c1 : decide (k = (1 : Int)) = false) (c2 : decide (k = (2 : Int)) = false) (c3 : decide (k = (3 : Int)) = false) (c4 : decide (k = (4 : Int)) = false) (c5 : decide (k = (5 : Int)) = true) : Sx.PureP (Sx.AV.raw false (4598334089338226320 : Nat)) (callE 88 [.int true .i64 k] (Sx.G.on [false, false, false, false, false, true])) := Sx.eqq (q := ((((((True ∧ (decide (k = (0 : Int)) = false)) ∧ (decide (k = (1 : Int)) = false)) ∧ (decide (k = (2 : Int)) = false)) ∧ (decide (k = (3 : Int)) = false)) ∧ (decide (k = (4 : Int)) = false)) ∧ (decide (k = (5 : Int)) = true))) (by kernel_rfl) ⟨⟨⟨⟨⟨⟨trivial, c0⟩, c1⟩, c2⟩, c3⟩, c4⟩, c5⟩
theorem const_r6 (k : Int) (c0 : decide (k = (0 : Int)) = false) (c1 : decide (k = (1 : Int)) = false) (c2 : decide (k = (2 : Int)) = false) (c3 : decide (k = (3 : Int)) = false) (c4 : decide (k = (4 : Int)) = false) (c5 : decide (k = (5 : Int)) = false) : Sx.PureP (Sx.AV.flt false (0 : Nat)) (callE 88 [.int true .i64 k] (Sx.G.on [false, false, false, false, false, false])) := Sx.eqq (q := ((((((True ∧ (decide (k = (0 : Int)) = false)) ∧ (decide (k = (1 : Int)) = false)) ∧ (decide (k = (2 : Int)) = false)) ∧ (decide (k = (3 : Int)) = false)) ∧ (decide (k = (4 : Int)) = false)) ∧ (decide (k = (5 : Int)) = false))) (by kernel_rfl) ⟨⟨⟨⟨⟨⟨trivial, c0⟩, c1⟩, c2⟩, c3⟩, c4⟩, c5⟩
noncomputable def const_0 (k : Int) : Nat := (bif decide (k = (0 : Int)) then ((4607182418800017408 : Nat)) else (bif decide (k = (1 : Int)) then ((4606875505927962389 : Nat)) else (bif decide (k = (2 : Int)) then ((4605975682916830378 : Nat)) else (bif decide (k = (3 : Int)) then ((4604544271217802189 : Nat)) else (bif decide (k = (4 : Int)) then ((4602678819172646912 : Nat)) else (bif decide (k = (5 : Int)) then ((4598334089338226320 : Nat)) else ((0 : Nat))))))))
noncomputable def constS : List Sx.AV → Sx.M Sx.AV
 | [.int s0 .i64 k] => Sx.M.ret (Sx.AV.flt s0 (const_0 k))
 | args => callE 88 args
theorem constS_ok : ∀ args v g g', constS args g = .done v g' → Sx.CallIs Try.prog 88 args v g g' := by
 intro args v g g' h
 unfold constS at h
 split at h
 ·rename_i s0 k
  obtain ⟨rfl, rfl⟩ := Sx.ret_done h
  refine Sx.scal callE_ok fun μ cargs ha => ?_
  have ha' : Sx.Reps 0 Sx.MM.none [.int true .i64 k] cargs.toList := by simpa only [Sx.Reps, Sx.Rep] using ha
  cases t0 : decide (k = (0 : Int)) with
  | true =>
   exact ⟨_, _, _, ha', const_r0 k t0, rfl, fun cv hc => by have := hc g.nx μ; have e0 : const_0 k = ((4607182418800017408 : Nat)) := (Sx.ct t0).trans (rfl); rw [e0]; (first | simpa only [Sx.AV.fl, Sx.AV.fl1, Sx.Rep, Sx.Reps, Sx.Rep_cmpB] using this.fl | (have h2 := this.fl; simp only [Sx.AV.fl, Sx.AV.fl1, Sx.Rep] at h2 ⊢; obtain ⟨b, e, q, l⟩ := h2; exact ⟨b, e, q.trans (by kernel_rfl), l⟩))⟩
  | false =>
   cases t1 : decide (k = (1 : Int)) with
   | true =>
    exact ⟨_, _, _, ha', const_r1 k t0 t1, rfl, fun cv hc => by have := hc g.nx μ; have e0 : const_0 k = ((4606875505927962389 : Nat)) := (Sx.cf t0).trans ((Sx.ct t1).trans (rfl)); rw [e0]; (first | simpa only [Sx.AV.fl, Sx.AV.fl1, Sx.Rep, Sx.Reps, Sx.Rep_cmpB] using this.fl | (have h2 := this.fl; simp only [Sx.AV.fl, Sx.AV.fl1, Sx.Rep] at h2 ⊢; obtain ⟨b, e, q, l⟩ := h2; exact ⟨b, e, q.trans (by kernel_rfl), l⟩))⟩
   | false =>
    cases t2 : decide (k = (2 : Int)) with
    | true =>
     exact ⟨_, _, _, ha', const_r2 k t0 t1 t2, rfl, fun cv hc => by have := hc g.nx μ; have e0 : const_0 k = ((4605975682916830378 : Nat)) := (Sx.cf t0).trans ((Sx.cf t1).trans ((Sx.ct t2).trans (rfl))); rw [e0]; (first | simpa only [Sx.AV.fl, Sx.AV.fl1, Sx.Rep, Sx.Reps, Sx.Rep_cmpB] using this.fl | (have h2 := this.fl; simp only [Sx.AV.fl, Sx.AV.fl1, Sx.Rep] at h2 ⊢; obtain ⟨b, e, q, l⟩ := h2; exact ⟨b, e, q.trans (by kernel_rfl), l⟩))⟩
    | false =>
     cases t3 : decide (k = (3 : Int)) with
     | true =>
      exact ⟨_, _, _, ha', const_r3 k t0 t1 t2 t3, rfl, fun cv hc => by have := hc g.nx μ; have e0 : const_0 k = ((4604544271217802189 : Nat)) := (Sx.cf t0).trans ((Sx.cf t1).trans ((Sx.cf t2).trans ((Sx.ct t3).trans (rfl)))); rw [e0]; (first | simpa only [Sx.AV.fl, Sx.AV.fl1, Sx.Rep, Sx.Reps, Sx.Rep_cmpB] using this.fl | (have h2 := this.fl; simp only [Sx.AV.fl, Sx.AV.fl1, Sx.Rep] at h2 ⊢; obtain ⟨b, e, q, l⟩ := h2; exact ⟨b, e, q.trans (by kernel_rfl), l⟩))⟩
     | false =>
      cases t4 : decide (k = (4 : Int)) with
      | true =>
       exact ⟨_, _, _, ha', const_r4 k t0 t1 t2 t3 t4, rfl, fun cv hc => by have := hc g.nx μ; have e0 : const_0 k = ((4602678819172646912 : Nat)) := (Sx.cf t0).trans ((Sx.cf t1).trans ((Sx.cf t2).trans ((Sx.cf t3).trans ((Sx.ct t4).trans (rfl))))); rw [e0]; (first | simpa only [Sx.AV.fl, Sx.AV.fl1, Sx.Rep, Sx.Reps, Sx.Rep_cmpB] using this.fl | (have h2 := this.fl; simp only [Sx.AV.fl, Sx.AV.fl1, Sx.Rep] at h2 ⊢; obtain ⟨b, e, q, l⟩ := h2; exact ⟨b, e, q.trans (by kernel_rfl), l⟩))⟩
      | false =>
       cases t5 : decide (k = (5 : Int)) with
       | true =>
        exact ⟨_, _, _, ha', const_r5 k t0 t1 t2 t3 t4 t5, rfl, fun cv hc => by have := hc g.nx μ; have e0 : const_0 k = ((4598334089338226320 : Nat)) := (Sx.cf t0).trans ((Sx.cf t1).trans ((Sx.cf t2).trans ((Sx.cf t3).trans ((Sx.cf t4).trans ((Sx.ct t5).trans (rfl)))))); rw [e0]; (first | simpa only [Sx.AV.fl, Sx.AV.fl1, Sx.Rep, Sx.Reps, Sx.Rep_cmpB] using this.fl | (have h2 := this.fl; simp only [Sx.AV.fl, Sx.AV.fl1, Sx.Rep] at h2 ⊢; obtain ⟨b, e, q, l⟩ := h2; exact ⟨b, e, q.trans (by kernel_rfl), l⟩))⟩
       | false =>
        exact ⟨_, _, _, ha', const_r6 k t0 t1 t2 t3 t4 t5, rfl, fun cv hc => by have := hc g.nx μ; have e0 : const_0 k = ((0 : Nat)) := (Sx.cf t0).trans ((Sx.cf t1).trans ((Sx.cf t2).trans ((Sx.cf t3).trans ((Sx.cf t4).trans ((Sx.cf t5).trans (rfl)))))); rw [e0]; (first | simpa only [Sx.AV.fl, Sx.AV.fl1, Sx.Rep, Sx.Reps, Sx.Rep_cmpB] using this.fl | (have h2 := this.fl; simp only [Sx.AV.fl, Sx.AV.fl1, Sx.Rep] at h2 ⊢; obtain ⟨b, e, q, l⟩ := h2; exact ⟨b, e, q.trans (by kernel_rfl), l⟩))⟩
 ·exact callE_ok _ _ _ _ _ h
theorem constS_tch : ∀ args, Sx.Tch (constS args) := by
 intro args
 unfold constS
 split
 ·exact Sx.Tch.ret _
 ·exact callE_tch _ _
theorem sr_r0 (x y : Nat) (c0 : decide ((↑x : Int) = (↑y : Int)) = true) : Sx.PureP (Sx.AV.bool true) (callE 41 [.raw true x, .raw true y] (Sx.G.on [true])) := Sx.eqq (q := (True ∧ (decide ((↑x : Int) = (↑y : Int)) = true))) (by kernel_rfl) ⟨trivial, c0⟩
theorem sr_r1 (x y : Nat) (c0 : decide ((↑x : Int) = (↑y : Int)) = false) (c1 : (!Sx.feq (Sx.cn x) (Sx.cn x)) = false) : Sx.PureP (Sx.AV.bool false) (callE 41 [.raw true x, .raw true y] (Sx.G.on [false, false])) := Sx.eqq (q := ((True ∧ (decide ((↑x : Int) = (↑y : Int)) = false)) ∧ ((!Sx.feq (Sx.cn x) (Sx.cn x)) = false))) (by kernel_rfl) ⟨⟨trivial, c0⟩, c1⟩
theorem sr_r2 (x y : Nat) (c0 : decide ((↑x : Int) = (↑y : Int)) = false) (c1 : (!Sx.feq (Sx.cn x) (Sx.cn x)) = true) : Sx.PureP (Sx.AV.sbool !Sx.feq (Sx.cn y) (Sx.cn y)) (callE 41 [.raw true x, .raw true y] (Sx.G.on [false, true])) := Sx.eqq (q := ((True ∧ (decide ((↑x : Int) = (↑y : Int)) = false)) ∧ ((!Sx.feq (Sx.cn x) (Sx.cn x)) = true))) (by kernel_rfl) ⟨⟨trivial, c0⟩, c1⟩
noncomputable def sr_0 (x y : Nat) : Bool := (bif decide ((↑x : Int) = (↑y : Int)) then (true) else (bif Sx.feq (Sx.cn x) (Sx.cn x) then (false) else (!Sx.feq (Sx.cn y) (Sx.cn y))))
noncomputable def srS : List Sx.AV → Sx.M Sx.AV
 | [.raw s0 x, .raw s1 y] => Sx.M.ret (Sx.cmpB (Bool.or s0 s1) (sr_0 x y))
 | args => callE 41 args
theorem srS_ok : ∀ args v g g', srS args g = .done v g' → Sx.CallIs Try.prog 41 args v g g' := by
 intro args v g g' h
 unfold srS at h
 split at h
 ·rename_i s0 x s1 y
  obtain ⟨rfl, rfl⟩ := Sx.ret_done h
  refine Sx.scal callE_ok fun μ cargs ha => ?_
  have ha' : Sx.Reps 0 Sx.MM.none [.raw true x, .raw true y] cargs.toList := by simpa only [Sx.Reps, Sx.Rep] using ha
  cases t0 : decide ((↑x : Int) = (↑y : Int)) with
  | true =>
   exact ⟨_, _, _, ha', sr_r0 x y t0, rfl, fun cv hc => by have := hc g.nx μ; have e0 : sr_0 x y = (true) := (Sx.ct t0).trans (rfl); rw [e0]; simpa only [Sx.Rep, Sx.Reps, Sx.Rep_cmpB] using this⟩
  | false =>
   cases t1 : Sx.feq (Sx.cn x) (Sx.cn x) with
   | true =>
    exact ⟨_, _, _, ha', sr_r1 x y t0 (by rw [t1]; rfl), rfl, fun cv hc => by have := hc g.nx μ; have e0 : sr_0 x y = (false) := (Sx.cf t0).trans ((Sx.ct t1).trans (rfl)); rw [e0]; simpa only [Sx.Rep, Sx.Reps, Sx.Rep_cmpB] using this⟩
   | false =>
    exact ⟨_, _, _, ha', sr_r2 x y t0 (by rw [t1]; rfl), rfl, fun cv hc => by have := hc g.nx μ; have e0 : sr_0 x y = (!Sx.feq (Sx.cn y) (Sx.cn y)) := (Sx.cf t0).trans ((Sx.cf t1).trans (rfl)); rw [e0]; simpa only [Sx.Rep, Sx.Reps, Sx.Rep_cmpB] using this⟩
 ·exact callE_ok _ _ _ _ _ h
theorem srS_tch : ∀ args, Sx.Tch (srS args) := by
 intro args
 unfold srS
 split
 ·exact Sx.Tch.ret _
 ·exact callE_tch _ _
theorem sr_eq (x y : Nat) (hx : x < 18446744073709551616) (hy : y < 18446744073709551616) : sr_0 x y = decide (Sx.cn x = Sx.cn y) := by
 unfold sr_0
 simp only [Sx.feq_selfc hx, Sx.feq_selfc hy]
 have e : decide ((x : Int) = (y : Int)) = decide (x = y) := decide_eq_decide.2 (by omega)
 simp only [e]
 cases h1 : Sx.isnan x <;> cases h2 : Sx.isnan y
 ·rw [Sx.cn_of_not h1, Sx.cn_of_not h2]; by_cases h : x = y <;> simp [h]
 ·rw [Sx.cn_of_not h1, Sx.cn_of_nan h2]
  have n1 : x ≠ Sx.qn := fun h => by rw [h] at h1; exact absurd h1 (by decide)
  have n2 : x ≠ y := fun h => by rw [h, h2] at h1; cases h1
  simp [n1, n2]
 ·rw [Sx.cn_of_nan h1, Sx.cn_of_not h2]
  have n1 : Sx.qn ≠ y := fun h => by rw [← h] at h2; exact absurd h2 (by decide)
  have n2 : x ≠ y := fun h => by rw [h, h2] at h1; cases h1
  simp [n1, n2]
 ·rw [Sx.cn_of_nan h1, Sx.cn_of_nan h2]; simp
noncomputable def srealV (x y : Sx.AV) : Sx.M Sx.AV :=
 match x, y with
 | .flt s a, .flt s' b => Sx.M.ret (Sx.cmpB (s || s') (decide (a = b)))
 | _, _ => Sx.M.no
noncomputable def srealS : List Sx.AV → Sx.M Sx.AV
 | [x, y] => srealV x.fl y.fl
 | _ => Sx.M.no
theorem srealS_ok : ∀ args v g g', srealS args g = .done v g' → Sx.CallIs Try.prog 41 args v g g' := by
 intro args v g g' h
 unfold srealS at h
 split at h
 ·rename_i x y
  generalize hx : x.fl = xf at h
  generalize hy : y.fl = yf at h
  unfold srealV at h
  split at h
  ·rename_i s a s' b
   obtain ⟨rfl, rfl⟩ := Sx.ret_done h
   refine ⟨id, fun hc μ w cargs hg ha => ?_⟩
   simp only [Sx.Reps] at ha
   obtain ⟨c1, _, e1, r1, c2, _, rfl, r2, rfl⟩ := ha
   have r1 := r1.fl
   have r2 := r2.fl
   rw [hx] at r1
   rw [hy] at r2
   simp only [Sx.Rep] at r1 r2
   obtain ⟨b1, rfl, q1, l1⟩ := r1
   obtain ⟨b2, rfl, q2, l2⟩ := r2
   have hS := srS_ok [.raw true b1, .raw true b2] (Sx.cmpB true (sr_0 b1 b2)) g g rfl
   refine (hS.2 hc μ w cargs hg (by rw [e1]; simp only [Sx.Reps]; exact ⟨_, _, rfl, by simp only [Sx.Rep]; exact ⟨trivial, l1⟩, _, _, rfl, by simp only [Sx.Rep]; exact ⟨trivial, l2⟩, rfl⟩)).mono fun cv w' hA => ?_
   obtain ⟨μ', k1, k2, k3⟩ := hA
   refine ⟨μ', ?_, k2, k3⟩
   rw [sr_eq _ _ l1 l2, q1, q2] at k1
   rw [Sx.Rep_cmpB] at k1 ⊢
   exact k1
  ·exact (Sx.no_done h).elim
 ·exact (Sx.no_done h).elim
theorem srealS_tch : ∀ args, Sx.Tch (srealS args) := by
 intro args
 unfold srealS
 split
 ·unfold srealV
  split
  ·exact Sx.Tch.ret _
  ·exact Sx.Tch.no
 ·exact Sx.Tch.no
theorem rconst_0 : Sx.PureP (.raw false 4607182418800017408) (callE 89 [.int false .i64 0] (Sx.G.on [])) := Sx.eqq (q := True) (by kernel_rfl) trivial
theorem const_0_is : const_0 0 = 4607182418800017408 := by decide +kernel
theorem rconst_1 : Sx.PureP (.raw false 4606875505927962389) (callE 89 [.int false .i64 1] (Sx.G.on [])) := Sx.eqq (q := True) (by kernel_rfl) trivial
theorem const_1_is : const_0 1 = 4606875505927962389 := by decide +kernel
theorem rconst_2 : Sx.PureP (.raw false 4605975682916830378) (callE 89 [.int false .i64 2] (Sx.G.on [])) := Sx.eqq (q := True) (by kernel_rfl) trivial
theorem const_2_is : const_0 2 = 4605975682916830378 := by decide +kernel
theorem rconst_3 : Sx.PureP (.raw false 4604544271217802189) (callE 89 [.int false .i64 3] (Sx.G.on [])) := Sx.eqq (q := True) (by kernel_rfl) trivial
theorem const_3_is : const_0 3 = 4604544271217802189 := by decide +kernel
theorem rconst_4 : Sx.PureP (.raw false 4602678819172646912) (callE 89 [.int false .i64 4] (Sx.G.on [])) := Sx.eqq (q := True) (by kernel_rfl) trivial
theorem const_4_is : const_0 4 = 4602678819172646912 := by decide +kernel
theorem rconst_5 : Sx.PureP (.raw false 4598334089338226320) (callE 89 [.int false .i64 5] (Sx.G.on [])) := Sx.eqq (q := True) (by kernel_rfl) trivial
theorem const_5_is : const_0 5 = 4598334089338226320 := by decide +kernel
theorem rconst_6 : Sx.PureP (.raw false 0) (callE 89 [.int false .i64 6] (Sx.G.on [])) := Sx.eqq (q := True) (by kernel_rfl) trivial
theorem const_6_is : const_0 6 = 0 := by decide +kernel
noncomputable def rconstS : List Sx.AV → Sx.M Sx.AV
 | [.int s .i64 k] => (Sx.M.req (0 ≤ k ∧ k ≤ 6)).andThen fun _ => Sx.M.ret (.flt s (const_0 k))
 | _ => Sx.M.no
theorem rconstS_ok : ∀ args v g g', rconstS args g = .done v g' → Sx.CallIs Try.prog 89 args v g g' := by
 intro args v g g' h
 unfold rconstS at h
 split at h
 ·rename_i s k
  obtain ⟨_, g1, a1, h1⟩ := Sx.done_of h
  obtain ⟨rfl, rfl⟩ := Sx.ret_done h1
  refine Sx.scalK callE_ok (Sx.req_done a1) fun hp μ cargs ha => ?_
  have key : ∀ (i : Nat) (w : Nat), k = (i : Int) → w < 18446744073709551616 → Sx.cn w = w → const_0 k = w → Sx.PureP (.raw false w) (callE 89 [.int false .i64 (i : Int)] (Sx.G.on [])) → ∃ args' path lv, Sx.Reps 0 Sx.MM.none args' cargs.toList ∧ Sx.PureP lv (callE 89 args' (Sx.G.on path)) ∧ lv.low 0 = true ∧ ∀ c, (∀ N μ, Sx.Rep N μ lv c) → Sx.Rep g.nx μ (.flt s (const_0 k)) c := fun i w e1 e2 e3 e4 e5 => by
   refine ⟨_, _, _, ?_, e5, rfl, fun c hc => ?_⟩
   ·subst e1; simpa only [Sx.Reps, Sx.Rep] using ha
   ·have := hc 0 Sx.MM.none
    simp only [Sx.Rep] at this ⊢
    exact ⟨w, this.1, by rw [e4]; exact e3, e2⟩
  have hk : k = 0 ∨ k = 1 ∨ k = 2 ∨ k = 3 ∨ k = 4 ∨ k = 5 ∨ k = 6 := by omega
  rcases hk with rfl | rfl | rfl | rfl | rfl | rfl | rfl
  ·exact key 0 4607182418800017408 rfl (by decide) (by decide) const_0_is rconst_0
  ·exact key 1 4606875505927962389 rfl (by decide) (by decide) const_1_is rconst_1
  ·exact key 2 4605975682916830378 rfl (by decide) (by decide) const_2_is rconst_2
  ·exact key 3 4604544271217802189 rfl (by decide) (by decide) const_3_is rconst_3
  ·exact key 4 4602678819172646912 rfl (by decide) (by decide) const_4_is rconst_4
  ·exact key 5 4598334089338226320 rfl (by decide) (by decide) const_5_is rconst_5
  ·exact key 6 0 rfl (by decide) (by decide) const_6_is rconst_6
 ·exact (Sx.no_done h).elim
theorem rconstS_tch : ∀ args, Sx.Tch (rconstS args) := by
 intro args
 unfold rconstS
 split
 ·exact (Sx.Tch.req _).andThen fun _ => Sx.Tch.ret _
 ·exact Sx.Tch.no
noncomputable def gamC : Sx.Known := Sx.kc 36 Sx.ofBits (Sx.kc 62 Sx.toBits (Sx.kc 81 smallS (Sx.kc 85 bytesS (Sx.kc 66 kindS (Sx.kc 72 rkindS (Sx.kc 63 rowOfS (Sx.kc 69 rrowS (Sx.kc 82 ofS (Sx.kc 86 rofS (Sx.kc 64 nameS (Sx.kc 70 rnameS (Sx.kc 65 nodeS (Sx.kc 71 rnodeS (Sx.kc 37 chkS (Sx.kc 39 rchkS (Sx.kc 88 constS (Sx.kc 89 rconstS (Sx.kc 41 srealS (Sx.kn)))))))))))))))))))
theorem gamC_ok : Sx.KnownOk Try.prog gamC := Sx.kc_ok ((Sx.ofBits_is Try.prog).callIs Try.func36 (by kernel_rfl) (by kernel_rfl) (by kernel_rfl) (by kernel_rfl)) (Sx.kc_ok ((Sx.toBits_is Try.prog).callIs Try.func62 (by kernel_rfl) (by kernel_rfl) (by kernel_rfl) (by kernel_rfl)) (Sx.kc_ok smallS_ok (Sx.kc_ok bytesS_ok (Sx.kc_ok kindS_ok (Sx.kc_ok rkindS_ok (Sx.kc_ok rowOfS_ok (Sx.kc_ok rrowS_ok (Sx.kc_ok ofS_ok (Sx.kc_ok rofS_ok (Sx.kc_ok nameS_ok (Sx.kc_ok rnameS_ok (Sx.kc_ok nodeS_ok (Sx.kc_ok rnodeS_ok (Sx.kc_ok chkS_ok (Sx.kc_ok rchkS_ok (Sx.kc_ok constS_ok (Sx.kc_ok rconstS_ok (Sx.kc_ok srealS_ok (Sx.kn_ok)))))))))))))))))))
theorem gamC_tch : Sx.KnownT gamC := Sx.kc_tch Sx.Tch.ofBits (Sx.kc_tch Sx.Tch.toBits (Sx.kc_tch smallS_tch (Sx.kc_tch bytesS_tch (Sx.kc_tch kindS_tch (Sx.kc_tch rkindS_tch (Sx.kc_tch rowOfS_tch (Sx.kc_tch rrowS_tch (Sx.kc_tch ofS_tch (Sx.kc_tch rofS_tch (Sx.kc_tch nameS_tch (Sx.kc_tch rnameS_tch (Sx.kc_tch nodeS_tch (Sx.kc_tch rnodeS_tch (Sx.kc_tch chkS_tch (Sx.kc_tch rchkS_tch (Sx.kc_tch constS_tch (Sx.kc_tch rconstS_tch (Sx.kc_tch srealS_tch (Sx.kn_tch)))))))))))))))))))
noncomputable def callC : Sx.Calls' := Sx.runN Try.prog gamC (Sx.regionC Try.prog) 1000 50
theorem callC_ok : Sx.CallOk Try.prog callC := Sx.engineC gamC_ok gamC_tch (by kernel_rfl) (by kernel_rfl) 1000 50
theorem callC_tch : Sx.CallT callC := Sx.runA_tch gamC_tch (fun _ _ _ h => by cases h) (fun call hc n l fr => Sx.regionC_tch hc n l fr) 50
theorem callC_reg (n : Nat) : Sx.RegionOk Try.prog (Sx.regionC Try.prog callC n) n := Sx.runN_regionC gamC_ok gamC_tch (by kernel_rfl) (by kernel_rfl) 1000 50 n

theorem cos_r0 (k : Int) (c0 : decide ((17 : Int) < k) = true) (c1 : (-9223372036854775808 : Int) ≤ (24 : Int) - k) (c2 : (24 : Int) - k ≤ (9223372036854775807 : Int)) : Sx.PureP (Sx.AV.flt true (const_0 ((24 : Int) - k))) (callC 83 [.int true .i64 k] (Sx.G.on [true])) := Sx.eqq (q := ((True ∧ (decide ((17 : Int) < k) = true)) ∧ (((-9223372036854775808 : Int) ≤ (24 : Int) - k) ∧ ((24 : Int) - k ≤ (9223372036854775807 : Int))))) (by kernel_rfl) ⟨⟨trivial, c0⟩, ⟨c1, c2⟩⟩
theorem cos_r1 (k : Int) (c0 : decide ((17 : Int) < k) = false) (c1 : decide ((12 : Int) < k) = true) (c2 : (-9223372036854775808 : Int) ≤ k - (12 : Int)) (c3 : k - (12 : Int) ≤ (9223372036854775807 : Int)) : Sx.PureP (Sx.AV.flt true (Sx.fneg (const_0 (k - (12 : Int))))) (callC 83 [.int true .i64 k] (Sx.G.on [false, true])) := Sx.eqq (q := (((True ∧ (decide ((17 : Int) < k) = false)) ∧ (decide ((12 : Int) < k) = true)) ∧ (((-9223372036854775808 : Int) ≤ k - (12 : Int)) ∧ (k - (12 : Int) ≤ (9223372036854775807 : Int))))) (by kernel_rfl) ⟨⟨⟨trivial, c0⟩, c1⟩, ⟨c2, c3⟩⟩
theorem cos_r2 (k : Int) (c0 : decide ((17 : Int) < k) = false) (c1 : decide ((12 : Int) < k) = false) (c2 : decide ((6 : Int) < k) = true) (c3 : (-9223372036854775808 : Int) ≤ (12 : Int) - k) (c4 : (12 : Int) - k ≤ (9223372036854775807 : Int)) : Sx.PureP (Sx.AV.flt true (Sx.fneg (const_0 ((12 : Int) - k)))) (callC 83 [.int true .i64 k] (Sx.G.on [false, false, true])) := Sx.eqq (q := ((((True ∧ (decide ((17 : Int) < k) = false)) ∧ (decide ((12 : Int) < k) = false)) ∧ (decide ((6 : Int) < k) = true)) ∧ (((-9223372036854775808 : Int) ≤ (12 : Int) - k) ∧ ((12 : Int) - k ≤ (9223372036854775807 : Int))))) (by kernel_rfl) ⟨⟨⟨⟨trivial, c0⟩, c1⟩, c2⟩, ⟨c3, c4⟩⟩
theorem cos_r3 (k : Int) (c0 : decide ((17 : Int) < k) = false) (c1 : decide ((12 : Int) < k) = false) (c2 : decide ((6 : Int) < k) = false) : Sx.PureP (Sx.AV.flt true (const_0 k)) (callC 83 [.int true .i64 k] (Sx.G.on [false, false, false])) := Sx.eqq (q := (((True ∧ (decide ((17 : Int) < k) = false)) ∧ (decide ((12 : Int) < k) = false)) ∧ (decide ((6 : Int) < k) = false))) (by kernel_rfl) ⟨⟨⟨trivial, c0⟩, c1⟩, c2⟩
noncomputable def cos_0 (k : Int) : Nat := (bif decide ((17 : Int) < k) then (const_0 ((24 : Int) - k)) else (bif decide ((12 : Int) < k) then (Sx.fneg (const_0 (k - (12 : Int)))) else (bif decide ((6 : Int) < k) then (Sx.fneg (const_0 ((12 : Int) - k))) else (const_0 k))))
noncomputable def cosS : List Sx.AV → Sx.M Sx.AV
 | [.int s0 .i64 k] => (Sx.M.req (((decide ((17 : Int) < k)) = true → ((-9223372036854775808 : Int) ≤ (24 : Int) - k)))).andThen fun _ => Sx.M.ret (Sx.AV.flt s0 (cos_0 k))
 | args => callC 83 args
theorem cosS_ok : ∀ args v g g', cosS args g = .done v g' → Sx.CallIs Try.prog 83 args v g g' := by
 intro args v g g' h
 unfold cosS at h
 split at h
 ·rename_i s0 k
  obtain ⟨_, g1, a1, h1⟩ := Sx.done_of h
  obtain ⟨rfl, rfl⟩ := Sx.ret_done h1
  refine Sx.scalK callC_ok (Sx.req_done a1) fun hp μ cargs ha => ?_
  have ha' : Sx.Reps 0 Sx.MM.none [.int true .i64 k] cargs.toList := by simpa only [Sx.Reps, Sx.Rep] using ha
  cases t0 : decide ((17 : Int) < k) with
  | true =>
   exact ⟨_, _, _, ha', cos_r0 k t0 (hp t0) (by first | ((try simp only [decide_eq_true_eq, decide_eq_false_iff_not] at t0); (try simp only [List.length_take, List.length_drop]); omega) | decide | (have hp' := hp; simp_all; try omega)), rfl, fun cv hc => by have := hc g.nx μ; have e0 : cos_0 k = (const_0 ((24 : Int) - k)) := (Sx.ct t0).trans (rfl); rw [e0]; simpa only [Sx.Rep, Sx.Reps, Sx.Rep_cmpB] using this⟩
  | false =>
   cases t1 : decide ((12 : Int) < k) with
   | true =>
    exact ⟨_, _, _, ha', cos_r1 k t0 t1 (by first | ((try simp only [decide_eq_true_eq, decide_eq_false_iff_not] at t0 t1); (try simp only [List.length_take, List.length_drop]); omega) | decide | (have hp' := hp; simp_all; try omega)) (by first | ((try simp only [decide_eq_true_eq, decide_eq_false_iff_not] at t0 t1); (try simp only [List.length_take, List.length_drop]); omega) | decide | (have hp' := hp; simp_all; try omega)), rfl, fun cv hc => by have := hc g.nx μ; have e0 : cos_0 k = (Sx.fneg (const_0 (k - (12 : Int)))) := (Sx.cf t0).trans ((Sx.ct t1).trans (rfl)); rw [e0]; simpa only [Sx.Rep, Sx.Reps, Sx.Rep_cmpB] using this⟩
   | false =>
    cases t2 : decide ((6 : Int) < k) with
    | true =>
     exact ⟨_, _, _, ha', cos_r2 k t0 t1 t2 (by first | ((try simp only [decide_eq_true_eq, decide_eq_false_iff_not] at t0 t1 t2); (try simp only [List.length_take, List.length_drop]); omega) | decide | (have hp' := hp; simp_all; try omega)) (by first | ((try simp only [decide_eq_true_eq, decide_eq_false_iff_not] at t0 t1 t2); (try simp only [List.length_take, List.length_drop]); omega) | decide | (have hp' := hp; simp_all; try omega)), rfl, fun cv hc => by have := hc g.nx μ; have e0 : cos_0 k = (Sx.fneg (const_0 ((12 : Int) - k))) := (Sx.cf t0).trans ((Sx.cf t1).trans ((Sx.ct t2).trans (rfl))); rw [e0]; simpa only [Sx.Rep, Sx.Reps, Sx.Rep_cmpB] using this⟩
    | false =>
     exact ⟨_, _, _, ha', cos_r3 k t0 t1 t2, rfl, fun cv hc => by have := hc g.nx μ; have e0 : cos_0 k = (const_0 k) := (Sx.cf t0).trans ((Sx.cf t1).trans ((Sx.cf t2).trans (rfl))); rw [e0]; simpa only [Sx.Rep, Sx.Reps, Sx.Rep_cmpB] using this⟩
 ·exact callC_ok _ _ _ _ _ h
theorem cosS_tch : ∀ args, Sx.Tch (cosS args) := by
 intro args
 unfold cosS
 split
 ·exact (Sx.Tch.req _).andThen fun _ => Sx.Tch.ret _
 ·exact callC_tch _ _
theorem rcos_r0 (k : Int) (c0 : (24 : Int) ≠ (0 : Int)) (c1 : decide (Int.tmod k (24 : Int) < (0 : Int)) = true) (c2 : (-9223372036854775808 : Int) ≤ Int.tmod k (24 : Int) + (24 : Int)) (c3 : Int.tmod k (24 : Int) + (24 : Int) ≤ (9223372036854775807 : Int)) (c4 : decide (Int.tmod k (24 : Int) + (24 : Int) = (6 : Int)) = true) : Sx.PureP (Sx.AV.flt false (0 : Nat)) (callC 87 [.int true .i64 k] (Sx.G.on [true, true])) := Sx.eqq (q := ((((True ∧ ((24 : Int) ≠ (0 : Int))) ∧ (decide (Int.tmod k (24 : Int) < (0 : Int)) = true)) ∧ (((-9223372036854775808 : Int) ≤ Int.tmod k (24 : Int) + (24 : Int)) ∧ (Int.tmod k (24 : Int) + (24 : Int) ≤ (9223372036854775807 : Int)))) ∧ (decide (Int.tmod k (24 : Int) + (24 : Int) = (6 : Int)) = true))) (by kernel_rfl) ⟨⟨⟨⟨trivial, c0⟩, c1⟩, ⟨c2, c3⟩⟩, c4⟩
theorem rcos_r1 (k : Int) (c0 : (24 : Int) ≠ (0 : Int)) (c1 : decide (Int.tmod k (24 : Int) < (0 : Int)) = true) (c2 : (-9223372036854775808 : Int) ≤ Int.tmod k (24 : Int) + (24 : Int)) (c3 : Int.tmod k (24 : Int) + (24 : Int) ≤ (9223372036854775807 : Int)) (c4 : decide (Int.tmod k (24 : Int) + (24 : Int) = (6 : Int)) = false) (c5 : decide (Int.tmod k (24 : Int) + (24 : Int) = (18 : Int)) = true) : Sx.PureP (Sx.AV.flt false (0 : Nat)) (callC 87 [.int true .i64 k] (Sx.G.on [true, false, true])) := Sx.eqq (q := (((((True ∧ ((24 : Int) ≠ (0 : Int))) ∧ (decide (Int.tmod k (24 : Int) < (0 : Int)) = true)) ∧ (((-9223372036854775808 : Int) ≤ Int.tmod k (24 : Int) + (24 : Int)) ∧ (Int.tmod k (24 : Int) + (24 : Int) ≤ (9223372036854775807 : Int)))) ∧ (decide (Int.tmod k (24 : Int) + (24 : Int) = (6 : Int)) = false)) ∧ (decide (Int.tmod k (24 : Int) + (24 : Int) = (18 : Int)) = true))) (by kernel_rfl) ⟨⟨⟨⟨⟨trivial, c0⟩, c1⟩, ⟨c2, c3⟩⟩, c4⟩, c5⟩
theorem rcos_r2 (k : Int) (c0 : (24 : Int) ≠ (0 : Int)) (c1 : decide (Int.tmod k (24 : Int) < (0 : Int)) = true) (c2 : (-9223372036854775808 : Int) ≤ Int.tmod k (24 : Int) + (24 : Int)) (c3 : Int.tmod k (24 : Int) + (24 : Int) ≤ (9223372036854775807 : Int)) (c4 : decide (Int.tmod k (24 : Int) + (24 : Int) = (6 : Int)) = false) (c5 : decide (Int.tmod k (24 : Int) + (24 : Int) = (18 : Int)) = false) (c6 : decide (Int.tmod k (24 : Int) + (24 : Int) < (6 : Int)) = true) (c7 : (0 : Int) ≤ Int.tmod k (24 : Int) + (24 : Int)) (c8 : Int.tmod k (24 : Int) + (24 : Int) ≤ (6 : Int)) : Sx.PureP (Sx.AV.flt true (const_0 (Int.tmod k (24 : Int) + (24 : Int)))) (callC 87 [.int true .i64 k] (Sx.G.on [true, false, false, true])) := Sx.eqq (q := (((((((True ∧ ((24 : Int) ≠ (0 : Int))) ∧ (decide (Int.tmod k (24 : Int) < (0 : Int)) = true)) ∧ (((-9223372036854775808 : Int) ≤ Int.tmod k (24 : Int) + (24 : Int)) ∧ (Int.tmod k (24 : Int) + (24 : Int) ≤ (9223372036854775807 : Int)))) ∧ (decide (Int.tmod k (24 : Int) + (24 : Int) = (6 : Int)) = false)) ∧ (decide (Int.tmod k (24 : Int) + (24 : Int) = (18 : Int)) = false)) ∧ (decide (Int.tmod k (24 : Int) + (24 : Int) < (6 : Int)) = true)) ∧ (((0 : Int) ≤ Int.tmod k (24 : Int) + (24 : Int)) ∧ (Int.tmod k (24 : Int) + (24 : Int) ≤ (6 : Int))))) (by kernel_rfl) ⟨⟨⟨⟨⟨⟨⟨trivial, c0⟩, c1⟩, ⟨c2, c3⟩⟩, c4⟩, c5⟩, c6⟩, ⟨c7, c8⟩⟩
theorem rcos_r3 (k : Int) (c0 : (24 : Int) ≠ (0 : Int)) (c1 : decide (Int.tmod k (24 : Int) < (0 : Int)) = true) (c2 : (-9223372036854775808 : Int) ≤ Int.tmod k (24 : Int) + (24 : Int)) (c3 : Int.tmod k (24 : Int) + (24 : Int) ≤ (9223372036854775807 : Int)) (c4 : decide (Int.tmod k (24 : Int) + (24 : Int) = (6 : Int)) = false) (c5 : decide (Int.tmod k (24 : Int) + (24 : Int) = (18 : Int)) = false) (c6 : decide (Int.tmod k (24 : Int) + (24 : Int) < (6 : Int)) = false) (c7 : decide (Int.tmod k (24 : Int) + (24 : Int) ≤ (12 : Int)) = true) (c8 : (-9223372036854775808 : Int) ≤ (12 : Int) - (Int.tmod k (24 : Int) + (24 : Int))) (c9 : (12 : Int) - (Int.tmod k (24 : Int) + (24 : Int)) ≤ (9223372036854775807 : Int)) (c10 : (0 : Int) ≤ (12 : Int) - (Int.tmod k (24 : Int) + (24 : Int))) (c11 : (12 : Int) - (Int.tmod k (24 : Int) + (24 : Int)) ≤ (6 : Int)) : Sx.PureP (Sx.AV.flt true (Sx.fneg (const_0 ((12 : Int) - (Int.tmod k (24 : Int) + (24 : Int)))))) (callC 87 [.int true .i64 k] (Sx.G.on [true, false, false, false, true])) := Sx.eqq (q := (((((((((True ∧ ((24 : Int) ≠ (0 : Int))) ∧ (decide (Int.tmod k (24 : Int) < (0 : Int)) = true)) ∧ (((-9223372036854775808 : Int) ≤ Int.tmod k (24 : Int) + (24 : Int)) ∧ (Int.tmod k (24 : Int) + (24 : Int) ≤ (9223372036854775807 : Int)))) ∧ (decide (Int.tmod k (24 : Int) + (24 : Int) = (6 : Int)) = false)) ∧ (decide (Int.tmod k (24 : Int) + (24 : Int) = (18 : Int)) = false)) ∧ (decide (Int.tmod k (24 : Int) + (24 : Int) < (6 : Int)) = false)) ∧ (decide (Int.tmod k (24 : Int) + (24 : Int) ≤ (12 : Int)) = true)) ∧ (((-9223372036854775808 : Int) ≤ (12 : Int) - (Int.tmod k (24 : Int) + (24 : Int))) ∧ ((12 : Int) - (Int.tmod k (24 : Int) + (24 : Int)) ≤ (9223372036854775807 : Int)))) ∧ (((0 : Int) ≤ (12 : Int) - (Int.tmod k (24 : Int) + (24 : Int))) ∧ ((12 : Int) - (Int.tmod k (24 : Int) + (24 : Int)) ≤ (6 : Int))))) (by kernel_rfl) ⟨⟨⟨⟨⟨⟨⟨⟨⟨trivial, c0⟩, c1⟩, ⟨c2, c3⟩⟩, c4⟩, c5⟩, c6⟩, c7⟩, ⟨c8, c9⟩⟩, ⟨c10, c11⟩⟩
theorem rcos_r4 (k : Int) (c0 : (24 : Int) ≠ (0 : Int)) (c1 : decide (Int.tmod k (24 : Int) < (0 : Int)) = true) (c2 : (-9223372036854775808 : Int) ≤ Int.tmod k (24 : Int) + (24 : Int)) (c3 : Int.tmod k (24 : Int) + (24 : Int) ≤ (9223372036854775807 : Int)) (c4 : decide (Int.tmod k (24 : Int) + (24 : Int) = (6 : Int)) = false) (c5 : decide (Int.tmod k (24 : Int) + (24 : Int) = (18 : Int)) = false) (c6 : decide (Int.tmod k (24 : Int) + (24 : Int) < (6 : Int)) = false) (c7 : decide (Int.tmod k (24 : Int) + (24 : Int) ≤ (12 : Int)) = false) (c8 : decide (Int.tmod k (24 : Int) + (24 : Int) < (18 : Int)) = true) (c9 : (-9223372036854775808 : Int) ≤ Int.tmod k (24 : Int) + (24 : Int) - (12 : Int)) (c10 : Int.tmod k (24 : Int) + (24 : Int) - (12 : Int) ≤ (9223372036854775807 : Int)) (c11 : (0 : Int) ≤ Int.tmod k (24 : Int) + (24 : Int) - (12 : Int)) (c12 : Int.tmod k (24 : Int) + (24 : Int) - (12 : Int) ≤ (6 : Int)) : Sx.PureP (Sx.AV.flt true (Sx.fneg (const_0 (Int.tmod k (24 : Int) + (24 : Int) - (12 : Int))))) (callC 87 [.int true .i64 k] (Sx.G.on [true, false, false, false, false, true])) := Sx.eqq (q := ((((((((((True ∧ ((24 : Int) ≠ (0 : Int))) ∧ (decide (Int.tmod k (24 : Int) < (0 : Int)) = true)) ∧ (((-9223372036854775808 : Int) ≤ Int.tmod k (24 : Int) + (24 : Int)) ∧ (Int.tmod k (24 : Int) + (24 : Int) ≤ (9223372036854775807 : Int)))) ∧ (decide (Int.tmod k (24 : Int) + (24 : Int) = (6 : Int)) = false)) ∧ (decide (Int.tmod k (24 : Int) + (24 : Int) = (18 : Int)) = false)) ∧ (decide (Int.tmod k (24 : Int) + (24 : Int) < (6 : Int)) = false)) ∧ (decide (Int.tmod k (24 : Int) + (24 : Int) ≤ (12 : Int)) = false)) ∧ (decide (Int.tmod k (24 : Int) + (24 : Int) < (18 : Int)) = true)) ∧ (((-9223372036854775808 : Int) ≤ Int.tmod k (24 : Int) + (24 : Int) - (12 : Int)) ∧ (Int.tmod k (24 : Int) + (24 : Int) - (12 : Int) ≤ (9223372036854775807 : Int)))) ∧ (((0 : Int) ≤ Int.tmod k (24 : Int) + (24 : Int) - (12 : Int)) ∧ (Int.tmod k (24 : Int) + (24 : Int) - (12 : Int) ≤ (6 : Int))))) (by kernel_rfl) ⟨⟨⟨⟨⟨⟨⟨⟨⟨⟨trivial, c0⟩, c1⟩, ⟨c2, c3⟩⟩, c4⟩, c5⟩, c6⟩, c7⟩, c8⟩, ⟨c9, c10⟩⟩, ⟨c11, c12⟩⟩
theorem rcos_r5 (k : Int) (c0 : (24 : Int) ≠ (0 : Int)) (c1 : decide (Int.tmod k (24 : Int) < (0 : Int)) = true) (c2 : (-9223372036854775808 : Int) ≤ Int.tmod k (24 : Int) + (24 : Int)) (c3 : Int.tmod k (24 : Int) + (24 : Int) ≤ (9223372036854775807 : Int)) (c4 : decide (Int.tmod k (24 : Int) + (24 : Int) = (6 : Int)) = false) (c5 : decide (Int.tmod k (24 : Int) + (24 : Int) = (18 : Int)) = false) (c6 : decide (Int.tmod k (24 : Int) + (24 : Int) < (6 : Int)) = false) (c7 : decide (Int.tmod k (24 : Int) + (24 : Int) ≤ (12 : Int)) = false) (c8 : decide (Int.tmod k (24 : Int) + (24 : Int) < (18 : Int)) = false) (c9 : (-9223372036854775808 : Int) ≤ (24 : Int) - (Int.tmod k (24 : Int) + (24 : Int))) (c10 : (24 : Int) - (Int.tmod k (24 : Int) + (24 : Int)) ≤ (9223372036854775807 : Int)) (c11 : (0 : Int) ≤ (24 : Int) - (Int.tmod k (24 : Int) + (24 : Int))) (c12 : (24 : Int) - (Int.tmod k (24 : Int) + (24 : Int)) ≤ (6 : Int)) : Sx.PureP (Sx.AV.flt true (const_0 ((24 : Int) - (Int.tmod k (24 : Int) + (24 : Int))))) (callC 87 [.int true .i64 k] (Sx.G.on [true, false, false, false, false, false])) := Sx.eqq (q := ((((((((((True ∧ ((24 : Int) ≠ (0 : Int))) ∧ (decide (Int.tmod k (24 : Int) < (0 : Int)) = true)) ∧ (((-9223372036854775808 : Int) ≤ Int.tmod k (24 : Int) + (24 : Int)) ∧ (Int.tmod k (24 : Int) + (24 : Int) ≤ (9223372036854775807 : Int)))) ∧ (decide (Int.tmod k (24 : Int) + (24 : Int) = (6 : Int)) = false)) ∧ (decide (Int.tmod k (24 : Int) + (24 : Int) = (18 : Int)) = false)) ∧ (decide (Int.tmod k (24 : Int) + (24 : Int) < (6 : Int)) = false)) ∧ (decide (Int.tmod k (24 : Int) + (24 : Int) ≤ (12 : Int)) = false)) ∧ (decide (Int.tmod k (24 : Int) + (24 : Int) < (18 : Int)) = false)) ∧ (((-9223372036854775808 : Int) ≤ (24 : Int) - (Int.tmod k (24 : Int) + (24 : Int))) ∧ ((24 : Int) - (Int.tmod k (24 : Int) + (24 : Int)) ≤ (9223372036854775807 : Int)))) ∧ (((0 : Int) ≤ (24 : Int) - (Int.tmod k (24 : Int) + (24 : Int))) ∧ ((24 : Int) - (Int.tmod k (24 : Int) + (24 : Int)) ≤ (6 : Int))))) (by kernel_rfl) ⟨⟨⟨⟨⟨⟨⟨⟨⟨⟨trivial, c0⟩, c1⟩, ⟨c2, c3⟩⟩, c4⟩, c5⟩, c6⟩, c7⟩, c8⟩, ⟨c9, c10⟩⟩, ⟨c11, c12⟩⟩
theorem rcos_r6 (k : Int) (c0 : (24 : Int) ≠ (0 : Int)) (c1 : decide (Int.tmod k (24 : Int) < (0 : Int)) = false) (c2 : decide (Int.tmod k (24 : Int) = (6 : Int)) = true) : Sx.PureP (Sx.AV.flt false (0 : Nat)) (callC 87 [.int true .i64 k] (Sx.G.on [false, true])) := Sx.eqq (q := (((True ∧ ((24 : Int) ≠ (0 : Int))) ∧ (decide (Int.tmod k (24 : Int) < (0 : Int)) = false)) ∧ (decide (Int.tmod k (24 : Int) = (6 : Int)) = true))) (by kernel_rfl) ⟨⟨⟨trivial, c0⟩, c1⟩, c2⟩
theorem rcos_r7 (k : Int) (c0 : (24 : Int) ≠ (0 : Int)) (c1 : decide (Int.tmod k (24 : Int) < (0 : Int)) = false) (c2 : decide (Int.tmod k (24 : Int) = (6 : Int)) = false) (c3 : decide (Int.tmod k (24 : Int) = (18 : Int)) = true) : Sx.PureP (Sx.AV.flt false (0 : Nat)) (callC 87 [.int true .i64 k] (Sx.G.on [false, false, true])) := Sx.eqq (q := ((((True ∧ ((24 : Int) ≠ (0 : Int))) ∧ (decide (Int.tmod k (24 : Int) < (0 : Int)) = false)) ∧ (decide (Int.tmod k (24 : Int) = (6 : Int)) = false)) ∧ (decide (Int.tmod k (24 : Int) = (18 : Int)) = true))) (by kernel_rfl) ⟨⟨⟨⟨trivial, c0⟩, c1⟩, c2⟩, c3⟩
theorem rcos_r8 (k : Int) (c0 : (24 : Int) ≠ (0 : Int)) (c1 : decide (Int.tmod k (24 : Int) < (0 : Int)) = false) (c2 : decide (Int.tmod k (24 : Int) = (6 : Int)) = false) (c3 : decide (Int.tmod k (24 : Int) = (18 : Int)) = false) (c4 : decide (Int.tmod k (24 : Int) < (6 : Int)) = true) (c5 : (0 : Int) ≤ Int.tmod k (24 : Int)) (c6 : Int.tmod k (24 : Int) ≤ (6 : Int)) : Sx.PureP (Sx.AV.flt true (const_0 (Int.tmod k (24 : Int)))) (callC 87 [.int true .i64 k] (Sx.G.on [false, false, false, true])) := Sx.eqq (q := ((((((True ∧ ((24 : Int) ≠ (0 : Int))) ∧ (decide (Int.tmod k (24 : Int) < (0 : Int)) = false)) ∧ (decide (Int.tmod k (24 : Int) = (6 : Int)) = false)) ∧ (decide (Int.tmod k (24 : Int) = (18 : Int)) = false)) ∧ (decide (Int.tmod k (24 : Int) < (6 : Int)) = true)) ∧ (((0 : Int) ≤ Int.tmod k (24 : Int)) ∧ (Int.tmod k (24 : Int) ≤ (6 : Int))))) (by kernel_rfl) ⟨⟨⟨⟨⟨⟨trivial, c0⟩, c1⟩, c2⟩, c3⟩, c4⟩, ⟨c5, c6⟩⟩
theorem rcos_r9 (k : Int) (c0 : (24 : Int) ≠ (0 : Int)) (c1 : decide (Int.tmod k (24 : Int) < (0 : Int)) = false) (c2 : decide (Int.tmod k (24 : Int) = (6 : Int)) = false) (c3 : decide (Int.tmod k (24 : Int) = (18 : Int)) = false) (c4 : decide (Int.tmod k (24 : Int) < (6 : Int)) = false) (c5 : decide (Int.tmod k (24 : Int) ≤ (12 : Int)) = true) (c6 : (-9223372036854775808 : Int) ≤ (12 : Int) - Int.tmod k (24 : Int)) (c7 : (12 : Int) - Int.tmod k (24 : Int) ≤ (9223372036854775807 : Int)) (c8 : (0 : Int) ≤ (12 : Int) - Int.tmod k (24 : Int)) (c9 : (12 : Int) - Int.tmod k (24 : Int) ≤ (6 : Int)) : Sx.PureP (Sx.AV.flt true (Sx.fneg (const_0 ((12 : Int) - Int.tmod k (24 : Int))))) (callC 87 [.int true .i64 k] (Sx.G.on [false, false, false, false, true])) := Sx.eqq (q := ((((((((True ∧ ((24 : Int) ≠ (0 : Int))) ∧ (decide (Int.tmod k (24 : Int) < (0 : Int)) = false)) ∧ (decide (Int.tmod k (24 : Int) = (6 : Int)) = false)) ∧ (decide (Int.tmod k (24 : Int) = (18 : Int)) = false)) ∧ (decide (Int.tmod k (24 : Int) < (6 : Int)) = false)) ∧ (decide (Int.tmod k (24 : Int) ≤ (12 : Int)) = true)) ∧ (((-9223372036854775808 : Int) ≤ (12 : Int) - Int.tmod k (24 : Int)) ∧ ((12 : Int) - Int.tmod k (24 : Int) ≤ (9223372036854775807 : Int)))) ∧ (((0 : Int) ≤ (12 : Int) - Int.tmod k (24 : Int)) ∧ ((12 : Int) - Int.tmod k (24 : Int) ≤ (6 : Int))))) (by kernel_rfl) ⟨⟨⟨⟨⟨⟨⟨⟨trivial, c0⟩, c1⟩, c2⟩, c3⟩, c4⟩, c5⟩, ⟨c6, c7⟩⟩, ⟨c8, c9⟩⟩
theorem rcos_r10 (k : Int) (c0 : (24 : Int) ≠ (0 : Int)) (c1 : decide (Int.tmod k (24 : Int) < (0 : Int)) = false) (c2 : decide (Int.tmod k (24 : Int) = (6 : Int)) = false) (c3 : decide (Int.tmod k (24 : Int) = (18 : Int)) = false) (c4 : decide (Int.tmod k (24 : Int) < (6 : Int)) = false) (c5 : decide (Int.tmod k (24 : Int) ≤ (12 : Int)) = false) (c6 : decide (Int.tmod k (24 : Int) < (18 : Int)) = true) (c7 : (-9223372036854775808 : Int) ≤ Int.tmod k (24 : Int) - (12 : Int)) (c8 : Int.tmod k (24 : Int) - (12 : Int) ≤ (9223372036854775807 : Int)) (c9 : (0 : Int) ≤ Int.tmod k (24 : Int) - (12 : Int)) (c10 : Int.tmod k (24 : Int) - (12 : Int) ≤ (6 : Int)) : Sx.PureP (Sx.AV.flt true (Sx.fneg (const_0 (Int.tmod k (24 : Int) - (12 : Int))))) (callC 87 [.int true .i64 k] (Sx.G.on [false, false, false, false, false, true])) := Sx.eqq (q := (((((((((True ∧ ((24 : Int) ≠ (0 : Int))) ∧ (decide (Int.tmod k (24 : Int) < (0 : Int)) = false)) ∧ (decide (Int.tmod k (24 : Int) = (6 : Int)) = false)) ∧ (decide (Int.tmod k (24 : Int) = (18 : Int)) = false)) ∧ (decide (Int.tmod k (24 : Int) < (6 : Int)) = false)) ∧ (decide (Int.tmod k (24 : Int) ≤ (12 : Int)) = false)) ∧ (decide (Int.tmod k (24 : Int) < (18 : Int)) = true)) ∧ (((-9223372036854775808 : Int) ≤ Int.tmod k (24 : Int) - (12 : Int)) ∧ (Int.tmod k (24 : Int) - (12 : Int) ≤ (9223372036854775807 : Int)))) ∧ (((0 : Int) ≤ Int.tmod k (24 : Int) - (12 : Int)) ∧ (Int.tmod k (24 : Int) - (12 : Int) ≤ (6 : Int))))) (by kernel_rfl) ⟨⟨⟨⟨⟨⟨⟨⟨⟨trivial, c0⟩, c1⟩, c2⟩, c3⟩, c4⟩, c5⟩, c6⟩, ⟨c7, c8⟩⟩, ⟨c9, c10⟩⟩
theorem rcos_r11 (k : Int) (c0 : (24 : Int) ≠ (0 : Int)) (c1 : decide (Int.tmod k (24 : Int) < (0 : Int)) = false) (c2 : decide (Int.tmod k (24 : Int) = (6 : Int)) = false) (c3 : decide (Int.tmod k (24 : Int) = (18 : Int)) = false) (c4 : decide (Int.tmod k (24 : Int) < (6 : Int)) = false) (c5 : decide (Int.tmod k (24 : Int) ≤ (12 : Int)) = false) (c6 : decide (Int.tmod k (24 : Int) < (18 : Int)) = false) (c7 : (-9223372036854775808 : Int) ≤ (24 : Int) - Int.tmod k (24 : Int)) (c8 : (24 : Int) - Int.tmod k (24 : Int) ≤ (9223372036854775807 : Int)) (c9 : (0 : Int) ≤ (24 : Int) - Int.tmod k (24 : Int)) (c10 : (24 : Int) - Int.tmod k (24 : Int) ≤ (6 : Int)) : Sx.PureP (Sx.AV.flt true (const_0 ((24 : Int) - Int.tmod k (24 : Int)))) (callC 87 [.int true .i64 k] (Sx.G.on [false, false, false, false, false, false])) := Sx.eqq (q := (((((((((True ∧ ((24 : Int) ≠ (0 : Int))) ∧ (decide (Int.tmod k (24 : Int) < (0 : Int)) = false)) ∧ (decide (Int.tmod k (24 : Int) = (6 : Int)) = false)) ∧ (decide (Int.tmod k (24 : Int) = (18 : Int)) = false)) ∧ (decide (Int.tmod k (24 : Int) < (6 : Int)) = false)) ∧ (decide (Int.tmod k (24 : Int) ≤ (12 : Int)) = false)) ∧ (decide (Int.tmod k (24 : Int) < (18 : Int)) = false)) ∧ (((-9223372036854775808 : Int) ≤ (24 : Int) - Int.tmod k (24 : Int)) ∧ ((24 : Int) - Int.tmod k (24 : Int) ≤ (9223372036854775807 : Int)))) ∧ (((0 : Int) ≤ (24 : Int) - Int.tmod k (24 : Int)) ∧ ((24 : Int) - Int.tmod k (24 : Int) ≤ (6 : Int))))) (by kernel_rfl) ⟨⟨⟨⟨⟨⟨⟨⟨⟨trivial, c0⟩, c1⟩, c2⟩, c3⟩, c4⟩, c5⟩, c6⟩, ⟨c7, c8⟩⟩, ⟨c9, c10⟩⟩
noncomputable def rcos_0 (k : Int) : Nat := (bif decide (Int.tmod k (24 : Int) < (0 : Int)) then (bif decide (Int.tmod k (24 : Int) + (24 : Int) = (6 : Int)) then ((0 : Nat)) else (bif decide (Int.tmod k (24 : Int) + (24 : Int) = (18 : Int)) then ((0 : Nat)) else (bif decide (Int.tmod k (24 : Int) + (24 : Int) < (6 : Int)) then (const_0 (Int.tmod k (24 : Int) + (24 : Int))) else (bif decide (Int.tmod k (24 : Int) + (24 : Int) ≤ (12 : Int)) then (Sx.fneg (const_0 ((12 : Int) - (Int.tmod k (24 : Int) + (24 : Int))))) else (bif decide (Int.tmod k (24 : Int) + (24 : Int) < (18 : Int)) then (Sx.fneg (const_0 (Int.tmod k (24 : Int) + (24 : Int) - (12 : Int)))) else (const_0 ((24 : Int) - (Int.tmod k (24 : Int) + (24 : Int))))))))) else (bif decide (Int.tmod k (24 : Int) = (6 : Int)) then ((0 : Nat)) else (bif decide (Int.tmod k (24 : Int) = (18 : Int)) then ((0 : Nat)) else (bif decide (Int.tmod k (24 : Int) < (6 : Int)) then (const_0 (Int.tmod k (24 : Int))) else (bif decide (Int.tmod k (24 : Int) ≤ (12 : Int)) then (Sx.fneg (const_0 ((12 : Int) - Int.tmod k (24 : Int)))) else (bif decide (Int.tmod k (24 : Int) < (18 : Int)) then (Sx.fneg (const_0 (Int.tmod k (24 : Int) - (12 : Int)))) else (const_0 ((24 : Int) - Int.tmod k (24 : Int)))))))))
noncomputable def rcosS : List Sx.AV → Sx.M Sx.AV
 | [.int s0 .i64 k] => (Sx.M.req (((decide (Int.tmod k (24 : Int) < (0 : Int))) = true → ((decide (Int.tmod k (24 : Int) + (24 : Int) = (6 : Int))) = false → ((decide (Int.tmod k (24 : Int) + (24 : Int) = (18 : Int))) = false → ((decide (Int.tmod k (24 : Int) + (24 : Int) < (6 : Int))) = true → ((-9223372036854775808 : Int) ≤ Int.tmod k (24 : Int) + (24 : Int)))))) ∧ ((decide (Int.tmod k (24 : Int) < (0 : Int))) = true → ((decide (Int.tmod k (24 : Int) + (24 : Int) = (6 : Int))) = false → ((decide (Int.tmod k (24 : Int) + (24 : Int) = (18 : Int))) = false → ((decide (Int.tmod k (24 : Int) + (24 : Int) < (6 : Int))) = true → ((0 : Int) ≤ Int.tmod k (24 : Int) + (24 : Int)))))) ∧ ((decide (Int.tmod k (24 : Int) < (0 : Int))) = false → ((decide (Int.tmod k (24 : Int) = (6 : Int))) = false → ((decide (Int.tmod k (24 : Int) = (18 : Int))) = false → ((decide (Int.tmod k (24 : Int) < (6 : Int))) = false → ((decide (Int.tmod k (24 : Int) ≤ (12 : Int))) = false → ((decide (Int.tmod k (24 : Int) < (18 : Int))) = false → ((-9223372036854775808 : Int) ≤ (24 : Int) - Int.tmod k (24 : Int)))))))) ∧ ((decide (Int.tmod k (24 : Int) < (0 : Int))) = false → ((decide (Int.tmod k (24 : Int) = (6 : Int))) = false → ((decide (Int.tmod k (24 : Int) = (18 : Int))) = false → ((decide (Int.tmod k (24 : Int) < (6 : Int))) = false → ((decide (Int.tmod k (24 : Int) ≤ (12 : Int))) = false → ((decide (Int.tmod k (24 : Int) < (18 : Int))) = false → ((0 : Int) ≤ (24 : Int) - Int.tmod k (24 : Int)))))))))).andThen fun _ => Sx.M.ret (Sx.AV.flt s0 (rcos_0 k))
 | args => callC 87 args
theorem rcosS_ok : ∀ args v g g', rcosS args g = .done v g' → Sx.CallIs Try.prog 87 args v g g' := by
 intro args v g g' h
 unfold rcosS at h
 split at h
 ·rename_i s0 k
  obtain ⟨_, g1, a1, h1⟩ := Sx.done_of h
  obtain ⟨rfl, rfl⟩ := Sx.ret_done h1
  refine Sx.scalK callC_ok (Sx.req_done a1) fun hp μ cargs ha => ?_
  have ha' : Sx.Reps 0 Sx.MM.none [.int true .i64 k] cargs.toList := by simpa only [Sx.Reps, Sx.Rep] using ha
  cases t0 : decide (Int.tmod k (24 : Int) < (0 : Int)) with
  | true =>
   cases t1 : decide (Int.tmod k (24 : Int) + (24 : Int) = (6 : Int)) with
   | true =>
    exact ⟨_, _, _, ha', rcos_r0 k (by first | ((try simp only [decide_eq_true_eq, decide_eq_false_iff_not] at t0 t1); (try simp only [List.length_take, List.length_drop]); omega) | decide | (have hp' := hp; simp_all; try omega)) t0 (by first | ((try simp only [decide_eq_true_eq, decide_eq_false_iff_not] at t0 t1); (try simp only [List.length_take, List.length_drop]); omega) | decide | (have hp' := hp; simp_all; try omega)) (by first | ((try simp only [decide_eq_true_eq, decide_eq_false_iff_not] at t0 t1); (try simp only [List.length_take, List.length_drop]); omega) | decide | (have hp' := hp; simp_all; try omega)) t1, rfl, fun cv hc => by have := hc g.nx μ; have e0 : rcos_0 k = ((0 : Nat)) := (Sx.ct t0).trans ((Sx.ct t1).trans (rfl)); rw [e0]; simpa only [Sx.Rep, Sx.Reps, Sx.Rep_cmpB] using this⟩
   | false =>
    cases t2 : decide (Int.tmod k (24 : Int) + (24 : Int) = (18 : Int)) with
    | true =>
     exact ⟨_, _, _, ha', rcos_r1 k (by first | ((try simp only [decide_eq_true_eq, decide_eq_false_iff_not] at t0 t1 t2); (try simp only [List.length_take, List.length_drop]); omega) | decide | (have hp' := hp; simp_all; try omega)) t0 (by first | ((try simp only [decide_eq_true_eq, decide_eq_false_iff_not] at t0 t1 t2); (try simp only [List.length_take, List.length_drop]); omega) | decide | (have hp' := hp; simp_all; try omega)) (by first | ((try simp only [decide_eq_true_eq, decide_eq_false_iff_not] at t0 t1 t2); (try simp only [List.length_take, List.length_drop]); omega) | decide | (have hp' := hp; simp_all; try omega)) t1 t2, rfl, fun cv hc => by have := hc g.nx μ; have e0 : rcos_0 k = ((0 : Nat)) := (Sx.ct t0).trans ((Sx.cf t1).trans ((Sx.ct t2).trans (rfl))); rw [e0]; simpa only [Sx.Rep, Sx.Reps, Sx.Rep_cmpB] using this⟩
    | false =>
     cases t3 : decide (Int.tmod k (24 : Int) + (24 : Int) < (6 : Int)) with
     | true =>
      exact ⟨_, _, _, ha', rcos_r2 k (by first | ((try simp only [decide_eq_true_eq, decide_eq_false_iff_not] at t0 t1 t2 t3); (try simp only [List.length_take, List.length_drop]); omega) | decide | (have hp' := hp; simp_all; try omega)) t0 (hp.1 t0 t1 t2 t3) (by first | ((try simp only [decide_eq_true_eq, decide_eq_false_iff_not] at t0 t1 t2 t3); (try simp only [List.length_take, List.length_drop]); omega) | decide | (have hp' := hp; simp_all; try omega)) t1 t2 t3 (hp.2.1 t0 t1 t2 t3) (by first | ((try simp only [decide_eq_true_eq, decide_eq_false_iff_not] at t0 t1 t2 t3); (try simp only [List.length_take, List.length_drop]); omega) | decide | (have hp' := hp; simp_all; try omega)), rfl, fun cv hc => by have := hc g.nx μ; have e0 : rcos_0 k = (const_0 (Int.tmod k (24 : Int) + (24 : Int))) := (Sx.ct t0).trans ((Sx.cf t1).trans ((Sx.cf t2).trans ((Sx.ct t3).trans (rfl)))); rw [e0]; simpa only [Sx.Rep, Sx.Reps, Sx.Rep_cmpB] using this⟩
     | false =>
      cases t4 : decide (Int.tmod k (24 : Int) + (24 : Int) ≤ (12 : Int)) with
      | true =>
       exact ⟨_, _, _, ha', rcos_r3 k (by first | ((try simp only [decide_eq_true_eq, decide_eq_false_iff_not] at t0 t1 t2 t3 t4); (try simp only [List.length_take, List.length_drop]); omega) | decide | (have hp' := hp; simp_all; try omega)) t0 (by first | ((try simp only [decide_eq_true_eq, decide_eq_false_iff_not] at t0 t1 t2 t3 t4); (try simp only [List.length_take, List.length_drop]); omega) | decide | (have hp' := hp; simp_all; try omega)) (by first | ((try simp only [decide_eq_true_eq, decide_eq_false_iff_not] at t0 t1 t2 t3 t4); (try simp only [List.length_take, List.length_drop]); omega) | decide | (have hp' := hp; simp_all; try omega)) t1 t2 t3 t4 (by first | ((try simp only [decide_eq_true_eq, decide_eq_false_iff_not] at t0 t1 t2 t3 t4); (try simp only [List.length_take, List.length_drop]); omega) | decide | (have hp' := hp; simp_all; try omega)) (by first | ((try simp only [decide_eq_true_eq, decide_eq_false_iff_not] at t0 t1 t2 t3 t4); (try simp only [List.length_take, List.length_drop]); omega) | decide | (have hp' := hp; simp_all; try omega)) (by first | ((try simp only [decide_eq_true_eq, decide_eq_false_iff_not] at t0 t1 t2 t3 t4); (try simp only [List.length_take, List.length_drop]); omega) | decide | (have hp' := hp; simp_all; try omega)) (by first | ((try simp only [decide_eq_true_eq, decide_eq_false_iff_not] at t0 t1 t2 t3 t4); (try simp only [List.length_take, List.length_drop]); omega) | decide | (have hp' := hp; simp_all; try omega)), rfl, fun cv hc => by have := hc g.nx μ; have e0 : rcos_0 k = (Sx.fneg (const_0 ((12 : Int) - (Int.tmod k (24 : Int) + (24 : Int))))) := (Sx.ct t0).trans ((Sx.cf t1).trans ((Sx.cf t2).trans ((Sx.cf t3).trans ((Sx.ct t4).trans (rfl))))); rw [e0]; simpa only [Sx.Rep, Sx.Reps, Sx.Rep_cmpB] using this⟩
      | false =>
       cases t5 : decide (Int.tmod k (24 : Int) + (24 : Int) < (18 : Int)) with
       | true =>
        exact ⟨_, _, _, ha', rcos_r4 k (by first | ((try simp only [decide_eq_true_eq, decide_eq_false_iff_not] at t0 t1 t2 t3 t4 t5); (try simp only [List.length_take, List.length_drop]); omega) | decide | (have hp' := hp; simp_all; try omega)) t0 (by first | ((try simp only [decide_eq_true_eq, decide_eq_false_iff_not] at t0 t1 t2 t3 t4 t5); (try simp only [List.length_take, List.length_drop]); omega) | decide | (have hp' := hp; simp_all; try omega)) (by first | ((try simp only [decide_eq_true_eq, decide_eq_false_iff_not] at t0 t1 t2 t3 t4 t5); (try simp only [List.length_take, List.length_drop]); omega) | decide | (have hp' := hp; simp_all; try omega)) t1 t2 t3 t4 t5 (by first | ((try simp only [decide_eq_true_eq, decide_eq_false_iff_not] at t0 t1 t2 t3 t4 t5); (try simp only [List.length_take, List.length_drop]); omega) | decide | (have hp' := hp; simp_all; try omega)) (by first | ((try simp only [decide_eq_true_eq, decide_eq_false_iff_not] at t0 t1 t2 t3 t4 t5); (try simp only [List.length_take, List.length_drop]); omega) | decide | (have hp' := hp; simp_all; try omega)) (by first | ((try simp only [decide_eq_true_eq, decide_eq_false_iff_not] at t0 t1 t2 t3 t4 t5); (try simp only [List.length_take, List.length_drop]); omega) | decide | (have hp' := hp; simp_all; try omega)) (by first | ((try simp only [decide_eq_true_eq, decide_eq_false_iff_not] at t0 t1 t2 t3 t4 t5); (try simp only [List.length_take, List.length_drop]); omega) | decide | (have hp' := hp; simp_all; try omega)), rfl, fun cv hc => by have := hc g.nx μ; have e0 : rcos_0 k = (Sx.fneg (const_0 (Int.tmod k (24 : Int) + (24 : Int) - (12 : Int)))) := (Sx.ct t0).trans ((Sx.cf t1).trans ((Sx.cf t2).trans ((Sx.cf t3).trans ((Sx.cf t4).trans ((Sx.ct t5).trans (rfl)))))); rw [e0]; simpa only [Sx.Rep, Sx.Reps, Sx.Rep_cmpB] using this⟩
       | false =>
        exact ⟨_, _, _, ha', rcos_r5 k (by first | ((try simp only [decide_eq_true_eq, decide_eq_false_iff_not] at t0 t1 t2 t3 t4 t5); (try simp only [List.length_take, List.length_drop]); omega) | decide | (have hp' := hp; simp_all; try omega)) t0 (by first | ((try simp only [decide_eq_true_eq, decide_eq_false_iff_not] at t0 t1 t2 t3 t4 t5); (try simp only [List.length_take, List.length_drop]); omega) | decide | (have hp' := hp; simp_all; try omega)) (by first | ((try simp only [decide_eq_true_eq, decide_eq_false_iff_not] at t0 t1 t2 t3 t4 t5); (try simp only [List.length_take, List.length_drop]); omega) | decide | (have hp' := hp; simp_all; try omega)) t1 t2 t3 t4 t5 (by first | ((try simp only [decide_eq_true_eq, decide_eq_false_iff_not] at t0 t1 t2 t3 t4 t5); (try simp only [List.length_take, List.length_drop]); omega) | decide | (have hp' := hp; simp_all; try omega)) (by first | ((try simp only [decide_eq_true_eq, decide_eq_false_iff_not] at t0 t1 t2 t3 t4 t5); (try simp only [List.length_take, List.length_drop]); omega) | decide | (have hp' := hp; simp_all; try omega)) (by first | ((try simp only [decide_eq_true_eq, decide_eq_false_iff_not] at t0 t1 t2 t3 t4 t5); (try simp only [List.length_take, List.length_drop]); omega) | decide | (have hp' := hp; simp_all; try omega)) (by first | ((try simp only [decide_eq_true_eq, decide_eq_false_iff_not] at t0 t1 t2 t3 t4 t5); (try simp only [List.length_take, List.length_drop]); omega) | decide | (have hp' := hp; simp_all; try omega)), rfl, fun cv hc => by have := hc g.nx μ; have e0 : rcos_0 k = (const_0 ((24 : Int) - (Int.tmod k (24 : Int) + (24 : Int)))) := (Sx.ct t0).trans ((Sx.cf t1).trans ((Sx.cf t2).trans ((Sx.cf t3).trans ((Sx.cf t4).trans ((Sx.cf t5).trans (rfl)))))); rw [e0]; simpa only [Sx.Rep, Sx.Reps, Sx.Rep_cmpB] using this⟩
  | false =>
   cases t1 : decide (Int.tmod k (24 : Int) = (6 : Int)) with
   | true =>
    exact ⟨_, _, _, ha', rcos_r6 k (by first | ((try simp only [decide_eq_true_eq, decide_eq_false_iff_not] at t0 t1); (try simp only [List.length_take, List.length_drop]); omega) | decide | (have hp' := hp; simp_all; try omega)) t0 t1, rfl, fun cv hc => by have := hc g.nx μ; have e0 : rcos_0 k = ((0 : Nat)) := (Sx.cf t0).trans ((Sx.ct t1).trans (rfl)); rw [e0]; simpa only [Sx.Rep, Sx.Reps, Sx.Rep_cmpB] using this⟩
   | false =>
    cases t2 : decide (Int.tmod k (24 : Int) = (18 : Int)) with
    | true =>
     exact ⟨_, _, _, ha', rcos_r7 k (by first | ((try simp only [decide_eq_true_eq, decide_eq_false_iff_not] at t0 t1 t2); (try simp only [List.length_take, List.length_drop]); omega) | decide | (have hp' := hp; simp_all; try omega)) t0 t1 t2, rfl, fun cv hc => by have := hc g.nx μ; have e0 : rcos_0 k = ((0 : Nat)) := (Sx.cf t0).trans ((Sx.cf t1).trans ((Sx.ct t2).trans (rfl))); rw [e0]; simpa only [Sx.Rep, Sx.Reps, Sx.Rep_cmpB] using this⟩
    | false =>
     cases t3 : decide (Int.tmod k (24 : Int) < (6 : Int)) with
     | true =>
      exact ⟨_, _, _, ha', rcos_r8 k (by first | ((try simp only [decide_eq_true_eq, decide_eq_false_iff_not] at t0 t1 t2 t3); (try simp only [List.length_take, List.length_drop]); omega) | decide | (have hp' := hp; simp_all; try omega)) t0 t1 t2 t3 (by first | ((try simp only [decide_eq_true_eq, decide_eq_false_iff_not] at t0 t1 t2 t3); (try simp only [List.length_take, List.length_drop]); omega) | decide | (have hp' := hp; simp_all; try omega)) (by first | ((try simp only [decide_eq_true_eq, decide_eq_false_iff_not] at t0 t1 t2 t3); (try simp only [List.length_take, List.length_drop]); omega) | decide | (have hp' := hp; simp_all; try omega)), rfl, fun cv hc => by have := hc g.nx μ; have e0 : rcos_0 k = (const_0 (Int.tmod k (24 : Int))) := (Sx.cf t0).trans ((Sx.cf t1).trans ((Sx.cf t2).trans ((Sx.ct t3).trans (rfl)))); rw [e0]; simpa only [Sx.Rep, Sx.Reps, Sx.Rep_cmpB] using this⟩
     | false =>
      cases t4 : decide (Int.tmod k (24 : Int) ≤ (12 : Int)) with
      | true =>
       exact ⟨_, _, _, ha', rcos_r9 k (by first | ((try simp only [decide_eq_true_eq, decide_eq_false_iff_not] at t0 t1 t2 t3 t4); (try simp only [List.length_take, List.length_drop]); omega) | decide | (have hp' := hp; simp_all; try omega)) t0 t1 t2 t3 t4 (by first | ((try simp only [decide_eq_true_eq, decide_eq_false_iff_not] at t0 t1 t2 t3 t4); (try simp only [List.length_take, List.length_drop]); omega) | decide | (have hp' := hp; simp_all; try omega)) (by first | ((try simp only [decide_eq_true_eq, decide_eq_false_iff_not] at t0 t1 t2 t3 t4); (try simp only [List.length_take, List.length_drop]); omega) | decide | (have hp' := hp; simp_all; try omega)) (by first | ((try simp only [decide_eq_true_eq, decide_eq_false_iff_not] at t0 t1 t2 t3 t4); (try simp only [List.length_take, List.length_drop]); omega) | decide | (have hp' := hp; simp_all; try omega)) (by first | ((try simp only [decide_eq_true_eq, decide_eq_false_iff_not] at t0 t1 t2 t3 t4); (try simp only [List.length_take, List.length_drop]); omega) | decide | (have hp' := hp; simp_all; try omega)), rfl, fun cv hc => by have := hc g.nx μ; have e0 : rcos_0 k = (Sx.fneg (const_0 ((12 : Int) - Int.tmod k (24 : Int)))) := (Sx.cf t0).trans ((Sx.cf t1).trans ((Sx.cf t2).trans ((Sx.cf t3).trans ((Sx.ct t4).trans (rfl))))); rw [e0]; simpa only [Sx.Rep, Sx.Reps, Sx.Rep_cmpB] using this⟩
      | false =>
       cases t5 : decide (Int.tmod k (24 : Int) < (18 : Int)) with
       | true =>
        exact ⟨_, _, _, ha', rcos_r10 k (by first | ((try simp only [decide_eq_true_eq, decide_eq_false_iff_not] at t0 t1 t2 t3 t4 t5); (try simp only [List.length_take, List.length_drop]); omega) | decide | (have hp' := hp; simp_all; try omega)) t0 t1 t2 t3 t4 t5 (by first | ((try simp only [decide_eq_true_eq, decide_eq_false_iff_not] at t0 t1 t2 t3 t4 t5); (try simp only [List.length_take, List.length_drop]); omega) | decide | (have hp' := hp; simp_all; try omega)) (by first | ((try simp only [decide_eq_true_eq, decide_eq_false_iff_not] at t0 t1 t2 t3 t4 t5); (try simp only [List.length_take, List.length_drop]); omega) | decide | (have hp' := hp; simp_all; try omega)) (by first | ((try simp only [decide_eq_true_eq, decide_eq_false_iff_not] at t0 t1 t2 t3 t4 t5); (try simp only [List.length_take, List.length_drop]); omega) | decide | (have hp' := hp; simp_all; try omega)) (by first | ((try simp only [decide_eq_true_eq, decide_eq_false_iff_not] at t0 t1 t2 t3 t4 t5); (try simp only [List.length_take, List.length_drop]); omega) | decide | (have hp' := hp; simp_all; try omega)), rfl, fun cv hc => by have := hc g.nx μ; have e0 : rcos_0 k = (Sx.fneg (const_0 (Int.tmod k (24 : Int) - (12 : Int)))) := (Sx.cf t0).trans ((Sx.cf t1).trans ((Sx.cf t2).trans ((Sx.cf t3).trans ((Sx.cf t4).trans ((Sx.ct t5).trans (rfl)))))); rw [e0]; simpa only [Sx.Rep, Sx.Reps, Sx.Rep_cmpB] using this⟩
       | false =>
        exact ⟨_, _, _, ha', rcos_r11 k (by first | ((try simp only [decide_eq_true_eq, decide_eq_false_iff_not] at t0 t1 t2 t3 t4 t5); (try simp only [List.length_take, List.length_drop]); omega) | decide | (have hp' := hp; simp_all; try omega)) t0 t1 t2 t3 t4 t5 (hp.2.2.1 t0 t1 t2 t3 t4 t5) (by first | ((try simp only [decide_eq_true_eq, decide_eq_false_iff_not] at t0 t1 t2 t3 t4 t5); (try simp only [List.length_take, List.length_drop]); omega) | decide | (have hp' := hp; simp_all; try omega)) (hp.2.2.2 t0 t1 t2 t3 t4 t5) (by first | ((try simp only [decide_eq_true_eq, decide_eq_false_iff_not] at t0 t1 t2 t3 t4 t5); (try simp only [List.length_take, List.length_drop]); omega) | decide | (have hp' := hp; simp_all; try omega)), rfl, fun cv hc => by have := hc g.nx μ; have e0 : rcos_0 k = (const_0 ((24 : Int) - Int.tmod k (24 : Int))) := (Sx.cf t0).trans ((Sx.cf t1).trans ((Sx.cf t2).trans ((Sx.cf t3).trans ((Sx.cf t4).trans ((Sx.cf t5).trans (rfl)))))); rw [e0]; simpa only [Sx.Rep, Sx.Reps, Sx.Rep_cmpB] using this⟩
 ·exact callC_ok _ _ _ _ _ h
theorem rcosS_tch : ∀ args, Sx.Tch (rcosS args) := by
 intro args
 unfold rcosS
 split
 ·exact (Sx.Tch.req _).andThen fun _ => Sx.Tch.ret _
 ·exact callC_tch _ _
noncomputable def gamD : Sx.Known := Sx.kc 36 Sx.ofBits (Sx.kc 62 Sx.toBits (Sx.kc 81 smallS (Sx.kc 85 bytesS (Sx.kc 66 kindS (Sx.kc 72 rkindS (Sx.kc 63 rowOfS (Sx.kc 69 rrowS (Sx.kc 82 ofS (Sx.kc 86 rofS (Sx.kc 64 nameS (Sx.kc 70 rnameS (Sx.kc 65 nodeS (Sx.kc 71 rnodeS (Sx.kc 37 chkS (Sx.kc 39 rchkS (Sx.kc 88 constS (Sx.kc 89 rconstS (Sx.kc 41 srealS (Sx.kc 83 cosS (Sx.kc 87 rcosS (Sx.kn)))))))))))))))))))))
theorem gamD_ok : Sx.KnownOk Try.prog gamD := Sx.kc_ok ((Sx.ofBits_is Try.prog).callIs Try.func36 (by kernel_rfl) (by kernel_rfl) (by kernel_rfl) (by kernel_rfl)) (Sx.kc_ok ((Sx.toBits_is Try.prog).callIs Try.func62 (by kernel_rfl) (by kernel_rfl) (by kernel_rfl) (by kernel_rfl)) (Sx.kc_ok smallS_ok (Sx.kc_ok bytesS_ok (Sx.kc_ok kindS_ok (Sx.kc_ok rkindS_ok (Sx.kc_ok rowOfS_ok (Sx.kc_ok rrowS_ok (Sx.kc_ok ofS_ok (Sx.kc_ok rofS_ok (Sx.kc_ok nameS_ok (Sx.kc_ok rnameS_ok (Sx.kc_ok nodeS_ok (Sx.kc_ok rnodeS_ok (Sx.kc_ok chkS_ok (Sx.kc_ok rchkS_ok (Sx.kc_ok constS_ok (Sx.kc_ok rconstS_ok (Sx.kc_ok srealS_ok (Sx.kc_ok cosS_ok (Sx.kc_ok rcosS_ok (Sx.kn_ok)))))))))))))))))))))
theorem gamD_tch : Sx.KnownT gamD := Sx.kc_tch Sx.Tch.ofBits (Sx.kc_tch Sx.Tch.toBits (Sx.kc_tch smallS_tch (Sx.kc_tch bytesS_tch (Sx.kc_tch kindS_tch (Sx.kc_tch rkindS_tch (Sx.kc_tch rowOfS_tch (Sx.kc_tch rrowS_tch (Sx.kc_tch ofS_tch (Sx.kc_tch rofS_tch (Sx.kc_tch nameS_tch (Sx.kc_tch rnameS_tch (Sx.kc_tch nodeS_tch (Sx.kc_tch rnodeS_tch (Sx.kc_tch chkS_tch (Sx.kc_tch rchkS_tch (Sx.kc_tch constS_tch (Sx.kc_tch rconstS_tch (Sx.kc_tch srealS_tch (Sx.kc_tch cosS_tch (Sx.kc_tch rcosS_tch (Sx.kn_tch)))))))))))))))))))))
noncomputable def callD : Sx.Calls' := Sx.runN Try.prog gamD (Sx.regionC Try.prog) 1000 50
theorem callD_ok : Sx.CallOk Try.prog callD := Sx.engineC gamD_ok gamD_tch (by kernel_rfl) (by kernel_rfl) 1000 50
theorem callD_tch : Sx.CallT callD := Sx.runA_tch gamD_tch (fun _ _ _ h => by cases h) (fun call hc n l fr => Sx.regionC_tch hc n l fr) 50
theorem callD_reg (n : Nat) : Sx.RegionOk Try.prog (Sx.regionC Try.prog callD n) n := Sx.runN_regionC gamD_ok gamD_tch (by kernel_rfl) (by kernel_rfl) 1000 50 n

theorem tm_b (k : Int) : -24 < Int.tmod k 24 ∧ Int.tmod k 24 < 24 := ⟨by have := Int.lt_tmod_of_pos k (show (0:Int) < 24 by decide); omega, Int.tmod_lt_of_pos k (by decide)⟩
noncomputable def rcos2S : List Sx.AV → Sx.M Sx.AV
 | [.int s .i64 k] => Sx.M.ret (Sx.AV.flt s (rcos_0 k))
 | _ => Sx.M.no
theorem rcos2S_ok : ∀ args v g g', rcos2S args g = .done v g' → Sx.CallIs Try.prog 87 args v g g' := by
 intro args v g g' h
 unfold rcos2S at h
 split at h
 ·rename_i s k
  obtain ⟨rfl, rfl⟩ := Sx.ret_done h
  have hS := rcosS_ok [.int s .i64 k] (Sx.AV.flt s (rcos_0 k)) g _ rfl
  refine ⟨id, fun hc μ w cargs hg ha => ?_⟩
  refine (hS.2 ⟨hc, (by have := tm_b k; simp only [decide_eq_true_eq, decide_eq_false_iff_not]; omega)⟩ μ w cargs hg ha).mono fun cv w' hA => ?_
  obtain ⟨μ', e1, e2, e3⟩ := hA
  exact ⟨μ', e1, e2, e3.swap rfl rfl rfl rfl⟩
 ·exact (Sx.no_done h).elim
theorem rcos2S_tch : ∀ args, Sx.Tch (rcos2S args) := by
 intro args
 unfold rcos2S
 split
 ·exact Sx.Tch.ret _
 ·exact Sx.Tch.no
noncomputable def gamE2 : Sx.Known := Sx.kc 36 Sx.ofBits (Sx.kc 62 Sx.toBits (Sx.kc 81 smallS (Sx.kc 85 bytesS (Sx.kc 66 kindS (Sx.kc 72 rkindS (Sx.kc 63 rowOfS (Sx.kc 69 rrowS (Sx.kc 82 ofS (Sx.kc 86 rofS (Sx.kc 64 nameS (Sx.kc 70 rnameS (Sx.kc 65 nodeS (Sx.kc 71 rnodeS (Sx.kc 37 chkS (Sx.kc 39 rchkS (Sx.kc 88 constS (Sx.kc 89 rconstS (Sx.kc 41 srealS (Sx.kc 83 cosS (Sx.kc 87 rcos2S (Sx.kn)))))))))))))))))))))
theorem gamE2_ok : Sx.KnownOk Try.prog gamE2 := Sx.kc_ok ((Sx.ofBits_is Try.prog).callIs Try.func36 (by kernel_rfl) (by kernel_rfl) (by kernel_rfl) (by kernel_rfl)) (Sx.kc_ok ((Sx.toBits_is Try.prog).callIs Try.func62 (by kernel_rfl) (by kernel_rfl) (by kernel_rfl) (by kernel_rfl)) (Sx.kc_ok smallS_ok (Sx.kc_ok bytesS_ok (Sx.kc_ok kindS_ok (Sx.kc_ok rkindS_ok (Sx.kc_ok rowOfS_ok (Sx.kc_ok rrowS_ok (Sx.kc_ok ofS_ok (Sx.kc_ok rofS_ok (Sx.kc_ok nameS_ok (Sx.kc_ok rnameS_ok (Sx.kc_ok nodeS_ok (Sx.kc_ok rnodeS_ok (Sx.kc_ok chkS_ok (Sx.kc_ok rchkS_ok (Sx.kc_ok constS_ok (Sx.kc_ok rconstS_ok (Sx.kc_ok srealS_ok (Sx.kc_ok cosS_ok (Sx.kc_ok rcos2S_ok (Sx.kn_ok)))))))))))))))))))))
theorem gamE2_tch : Sx.KnownT gamE2 := Sx.kc_tch Sx.Tch.ofBits (Sx.kc_tch Sx.Tch.toBits (Sx.kc_tch smallS_tch (Sx.kc_tch bytesS_tch (Sx.kc_tch kindS_tch (Sx.kc_tch rkindS_tch (Sx.kc_tch rowOfS_tch (Sx.kc_tch rrowS_tch (Sx.kc_tch ofS_tch (Sx.kc_tch rofS_tch (Sx.kc_tch nameS_tch (Sx.kc_tch rnameS_tch (Sx.kc_tch nodeS_tch (Sx.kc_tch rnodeS_tch (Sx.kc_tch chkS_tch (Sx.kc_tch rchkS_tch (Sx.kc_tch constS_tch (Sx.kc_tch rconstS_tch (Sx.kc_tch srealS_tch (Sx.kc_tch cosS_tch (Sx.kc_tch rcos2S_tch (Sx.kn_tch)))))))))))))))))))))
noncomputable def callE2 : Sx.Calls' := Sx.runN Try.prog gamE2 (Sx.regionC Try.prog) 1000 50
theorem callE2_ok : Sx.CallOk Try.prog callE2 := Sx.engineC gamE2_ok gamE2_tch (by kernel_rfl) (by kernel_rfl) 1000 50
theorem callE2_tch : Sx.CallT callE2 := Sx.runA_tch gamE2_tch (fun _ _ _ h => by cases h) (fun call hc n l fr => Sx.regionC_tch hc n l fr) 50
theorem callE2_reg (n : Nat) : Sx.RegionOk Try.prog (Sx.regionC Try.prog callE2 n) n := Sx.runN_regionC gamE2_ok gamE2_tch (by kernel_rfl) (by kernel_rfl) 1000 50 n

theorem root_r0 (k : Int) (c0 : (24 : Int) ≠ (0 : Int)) (c1 : (-9223372036854775808 : Int) ≤ Int.tmod k (24 : Int) + (24 : Int)) (c2 : Int.tmod k (24 : Int) + (24 : Int) ≤ (9223372036854775807 : Int)) (c3 : decide ((17 : Int) < Int.tmod (Int.tmod k (24 : Int) + (24 : Int)) (24 : Int)) = true → (-9223372036854775808 : Int) ≤ (24 : Int) - Int.tmod (Int.tmod k (24 : Int) + (24 : Int)) (24 : Int)) (c4 : (-9223372036854775808 : Int) ≤ Int.tmod (Int.tmod k (24 : Int) + (24 : Int)) (24 : Int) + (18 : Int)) (c5 : Int.tmod (Int.tmod k (24 : Int) + (24 : Int)) (24 : Int) + (18 : Int) ≤ (9223372036854775807 : Int)) (c6 : decide ((17 : Int) < Int.tmod (Int.tmod (Int.tmod k (24 : Int) + (24 : Int)) (24 : Int) + (18 : Int)) (24 : Int)) = true → (-9223372036854775808 : Int) ≤ (24 : Int) - Int.tmod (Int.tmod (Int.tmod k (24 : Int) + (24 : Int)) (24 : Int) + (18 : Int)) (24 : Int)) : Sx.PureP (Sx.AV.cpx true (cos_0 (Int.tmod (Int.tmod k (24 : Int) + (24 : Int)) (24 : Int))) (cos_0 (Int.tmod (Int.tmod (Int.tmod k (24 : Int) + (24 : Int)) (24 : Int) + (18 : Int)) (24 : Int)))) (callE2 68 [.int true .i64 k] (Sx.G.on [])) := Sx.eqq (q := (((((((True ∧ ((24 : Int) ≠ (0 : Int))) ∧ (((-9223372036854775808 : Int) ≤ Int.tmod k (24 : Int) + (24 : Int)) ∧ (Int.tmod k (24 : Int) + (24 : Int) ≤ (9223372036854775807 : Int)))) ∧ ((24 : Int) ≠ (0 : Int))) ∧ (decide ((17 : Int) < Int.tmod (Int.tmod k (24 : Int) + (24 : Int)) (24 : Int)) = true → (-9223372036854775808 : Int) ≤ (24 : Int) - Int.tmod (Int.tmod k (24 : Int) + (24 : Int)) (24 : Int))) ∧ (((-9223372036854775808 : Int) ≤ Int.tmod (Int.tmod k (24 : Int) + (24 : Int)) (24 : Int) + (18 : Int)) ∧ (Int.tmod (Int.tmod k (24 : Int) + (24 : Int)) (24 : Int) + (18 : Int) ≤ (9223372036854775807 : Int)))) ∧ ((24 : Int) ≠ (0 : Int))) ∧ (decide ((17 : Int) < Int.tmod (Int.tmod (Int.tmod k (24 : Int) + (24 : Int)) (24 : Int) + (18 : Int)) (24 : Int)) = true → (-9223372036854775808 : Int) ≤ (24 : Int) - Int.tmod (Int.tmod (Int.tmod k (24 : Int) + (24 : Int)) (24 : Int) + (18 : Int)) (24 : Int)))) (by kernel_rfl) ⟨⟨⟨⟨⟨⟨⟨trivial, c0⟩, ⟨c1, c2⟩⟩, c0⟩, c3⟩, ⟨c4, c5⟩⟩, c0⟩, c6⟩
noncomputable def rootS : List Sx.AV → Sx.M Sx.AV
 | [.int s0 .i64 k] => (Sx.M.req (((-9223372036854775808 : Int) ≤ Int.tmod k (24 : Int) + (24 : Int)) ∧ (Int.tmod k (24 : Int) + (24 : Int) ≤ (9223372036854775807 : Int)) ∧ (decide ((17 : Int) < Int.tmod (Int.tmod k (24 : Int) + (24 : Int)) (24 : Int)) = true → (-9223372036854775808 : Int) ≤ (24 : Int) - Int.tmod (Int.tmod k (24 : Int) + (24 : Int)) (24 : Int)) ∧ ((-9223372036854775808 : Int) ≤ Int.tmod (Int.tmod k (24 : Int) + (24 : Int)) (24 : Int) + (18 : Int)) ∧ (Int.tmod (Int.tmod k (24 : Int) + (24 : Int)) (24 : Int) + (18 : Int) ≤ (9223372036854775807 : Int)) ∧ (decide ((17 : Int) < Int.tmod (Int.tmod (Int.tmod k (24 : Int) + (24 : Int)) (24 : Int) + (18 : Int)) (24 : Int)) = true → (-9223372036854775808 : Int) ≤ (24 : Int) - Int.tmod (Int.tmod (Int.tmod k (24 : Int) + (24 : Int)) (24 : Int) + (18 : Int)) (24 : Int)))).andThen fun _ => Sx.M.ret (Sx.AV.cpx s0 (cos_0 (Int.tmod (Int.tmod k (24 : Int) + (24 : Int)) (24 : Int))) (cos_0 (Int.tmod (Int.tmod (Int.tmod k (24 : Int) + (24 : Int)) (24 : Int) + (18 : Int)) (24 : Int))))
 | args => callE2 68 args
theorem rootS_ok : ∀ args v g g', rootS args g = .done v g' → Sx.CallIs Try.prog 68 args v g g' := by
 intro args v g g' h
 unfold rootS at h
 split at h
 ·rename_i s0 k
  obtain ⟨_, g1, a1, h1⟩ := Sx.done_of h
  obtain ⟨rfl, rfl⟩ := Sx.ret_done h1
  refine Sx.scalK callE2_ok (Sx.req_done a1) fun hp μ cargs ha => ?_
  have ha' : Sx.Reps 0 Sx.MM.none [.int true .i64 k] cargs.toList := by simpa only [Sx.Reps, Sx.Rep] using ha
  exact ⟨_, _, _, ha', root_r0 k (by first | omega | decide | (have hp' := hp; simp_all; try omega)) (hp.1) (hp.2.1) (hp.2.2.1) (hp.2.2.2.1) (hp.2.2.2.2.1) (hp.2.2.2.2.2), rfl, fun cv hc => by have := hc g.nx μ; simpa only [Sx.Rep, Sx.Reps, Sx.Rep_cmpB] using this⟩
 ·exact callE2_ok _ _ _ _ _ h
theorem rootS_tch : ∀ args, Sx.Tch (rootS args) := by
 intro args
 unfold rootS
 split
 ·exact (Sx.Tch.req _).andThen fun _ => Sx.Tch.ret _
 ·exact callE2_tch _ _
theorem rroot_r0 (k : Int) (c0 : (24 : Int) ≠ (0 : Int)) (c1 : (-9223372036854775808 : Int) ≤ Int.tmod k (24 : Int) - (6 : Int)) (c2 : Int.tmod k (24 : Int) - (6 : Int) ≤ (9223372036854775807 : Int)) : Sx.PureP (Sx.AV.cpx true (rcos_0 (Int.tmod k (24 : Int))) (rcos_0 (Int.tmod k (24 : Int) - (6 : Int)))) (callE2 73 [.int true .i64 k] (Sx.G.on [])) := Sx.eqq (q := ((True ∧ ((24 : Int) ≠ (0 : Int))) ∧ (((-9223372036854775808 : Int) ≤ Int.tmod k (24 : Int) - (6 : Int)) ∧ (Int.tmod k (24 : Int) - (6 : Int) ≤ (9223372036854775807 : Int))))) (by kernel_rfl) ⟨⟨trivial, c0⟩, ⟨c1, c2⟩⟩
noncomputable def rrootS : List Sx.AV → Sx.M Sx.AV
 | [.int s0 .i64 k] => (Sx.M.req (((-9223372036854775808 : Int) ≤ Int.tmod k (24 : Int) - (6 : Int)) ∧ (Int.tmod k (24 : Int) - (6 : Int) ≤ (9223372036854775807 : Int)))).andThen fun _ => Sx.M.ret (Sx.AV.cpx s0 (rcos_0 (Int.tmod k (24 : Int))) (rcos_0 (Int.tmod k (24 : Int) - (6 : Int))))
 | args => callE2 73 args
theorem rrootS_ok : ∀ args v g g', rrootS args g = .done v g' → Sx.CallIs Try.prog 73 args v g g' := by
 intro args v g g' h
 unfold rrootS at h
 split at h
 ·rename_i s0 k
  obtain ⟨_, g1, a1, h1⟩ := Sx.done_of h
  obtain ⟨rfl, rfl⟩ := Sx.ret_done h1
  refine Sx.scalK callE2_ok (Sx.req_done a1) fun hp μ cargs ha => ?_
  have ha' : Sx.Reps 0 Sx.MM.none [.int true .i64 k] cargs.toList := by simpa only [Sx.Reps, Sx.Rep] using ha
  exact ⟨_, _, _, ha', rroot_r0 k (by first | omega | decide | (have hp' := hp; simp_all; try omega)) (hp.1) (hp.2), rfl, fun cv hc => by have := hc g.nx μ; simpa only [Sx.Rep, Sx.Reps, Sx.Rep_cmpB] using this⟩
 ·exact callE2_ok _ _ _ _ _ h
theorem rrootS_tch : ∀ args, Sx.Tch (rrootS args) := by
 intro args
 unfold rrootS
 split
 ·exact (Sx.Tch.req _).andThen fun _ => Sx.Tch.ret _
 ·exact callE2_tch _ _

theorem root_all : ∀ i : Fin 47, cos_0 (Int.tmod ((i : Nat) - 23 + 24 : Int) 24) = rcos_0 ((i : Nat) - 23 : Int) ∧ cos_0 (Int.tmod (Int.tmod ((i : Nat) - 23 + 24 : Int) 24 + 18) 24) = rcos_0 ((i : Nat) - 23 - 6 : Int) := by decide +kernel
theorem root_eq (k : Int) : cos_0 (Int.tmod (Int.tmod k 24 + 24) 24) = rcos_0 (Int.tmod k 24) ∧ cos_0 (Int.tmod (Int.tmod (Int.tmod k 24 + 24) 24 + 18) 24) = rcos_0 (Int.tmod k 24 - 6) := by
 have h := tm_b k
 generalize Int.tmod k 24 = m at h ⊢
 have := root_all ⟨(m + 23).toNat, by omega⟩
 simp only [show (((m + 23).toNat : Nat) : Int) = m + 23 by omega, show m + 23 - 23 = m by omega] at this
 exact this
noncomputable def root2S : List Sx.AV → Sx.M Sx.AV
 | [.int s .i64 k] => Sx.M.ret (Sx.AV.cpx s (cos_0 (Int.tmod (Int.tmod k 24 + 24) 24)) (cos_0 (Int.tmod (Int.tmod (Int.tmod k 24 + 24) 24 + 18) 24)))
 | _ => Sx.M.no
theorem root2S_ok : ∀ args v g g', root2S args g = .done v g' → Sx.CallIs Try.prog 68 args v g g' := by
 intro args v g g' h
 unfold root2S at h
 split at h
 ·rename_i s k
  obtain ⟨rfl, rfl⟩ := Sx.ret_done h
  have hS := rootS_ok [.int s .i64 k] (Sx.AV.cpx s (cos_0 (Int.tmod (Int.tmod k 24 + 24) 24)) (cos_0 (Int.tmod (Int.tmod (Int.tmod k 24 + 24) 24 + 18) 24))) g _ rfl
  refine ⟨id, fun hc μ w cargs hg ha => ?_⟩
  refine (hS.2 ⟨hc, (by have h1 := tm_b k; have h2 := tm_b (Int.tmod k 24 + 24); have h3 := tm_b (Int.tmod (Int.tmod k 24 + 24) 24 + 18); simp only [decide_eq_true_eq]; omega)⟩ μ w cargs hg ha).mono fun cv w' hA => ?_
  obtain ⟨μ', e1, e2, e3⟩ := hA
  exact ⟨μ', e1, e2, e3.swap rfl rfl rfl rfl⟩
 ·exact (Sx.no_done h).elim
theorem root2S_tch : ∀ args, Sx.Tch (root2S args) := by
 intro args
 unfold root2S
 split
 ·exact Sx.Tch.ret _
 ·exact Sx.Tch.no
noncomputable def rroot2S : List Sx.AV → Sx.M Sx.AV
 | [.int s .i64 k] => Sx.M.ret (Sx.AV.cpx s (cos_0 (Int.tmod (Int.tmod k 24 + 24) 24)) (cos_0 (Int.tmod (Int.tmod (Int.tmod k 24 + 24) 24 + 18) 24)))
 | _ => Sx.M.no
theorem rroot2S_ok : ∀ args v g g', rroot2S args g = .done v g' → Sx.CallIs Try.prog 73 args v g g' := by
 intro args v g g' h
 unfold rroot2S at h
 split at h
 ·rename_i s k
  obtain ⟨rfl, rfl⟩ := Sx.ret_done h
  have hS := rrootS_ok [.int s .i64 k] (Sx.AV.cpx s (rcos_0 (Int.tmod k 24)) (rcos_0 (Int.tmod k 24 - 6))) g _ rfl
  refine ⟨id, fun hc μ w cargs hg ha => ?_⟩
  refine (hS.2 ⟨hc, (by have h1 := tm_b k; omega)⟩ μ w cargs hg ha).mono fun cv w' hA => ?_
  obtain ⟨μ', e1, e2, e3⟩ := hA
  exact ⟨μ', by rw [(root_eq k).1, (root_eq k).2]; exact e1, e2, e3.swap rfl rfl rfl rfl⟩
 ·exact (Sx.no_done h).elim
theorem rroot2S_tch : ∀ args, Sx.Tch (rroot2S args) := by
 intro args
 unfold rroot2S
 split
 ·exact Sx.Tch.ret _
 ·exact Sx.Tch.no
theorem of_0_eq (c : Int) : of_0 c = rof_0 c := by unfold of_0 rof_0; rfl
theorem of_1_eq (c : Int) : of_1 c = rof_1 c := by unfold of_1 rof_1; rfl
theorem row_2_eq (k : Int) : rowOf_2 k = rrow_3 k := by unfold rowOf_2 rrow_3; simp only [show ∀ a : Int, decide (a = k) = decide (k = a) from fun a => decide_eq_decide.2 ⟨Eq.symm, Eq.symm⟩]
theorem row_3_eq (k : Int) : rowOf_3 k = rrow_5 k := by unfold rowOf_3 rrow_5; simp only [show ∀ a : Int, decide (a = k) = decide (k = a) from fun a => decide_eq_decide.2 ⟨Eq.symm, Eq.symm⟩]
theorem row_4_eq (k : Int) : rowOf_4 k = rrow_4 k := by unfold rowOf_4 rrow_4; simp only [show ∀ a : Int, decide (a = k) = decide (k = a) from fun a => decide_eq_decide.2 ⟨Eq.symm, Eq.symm⟩]
theorem row_5_eq (k : Int) : rowOf_5 k = rrow_6 k := by unfold rowOf_5 rrow_6; simp only [show ∀ a : Int, decide (a = k) = decide (k = a) from fun a => decide_eq_decide.2 ⟨Eq.symm, Eq.symm⟩]
theorem name_0_eq (l : List UInt8) : name_0 l = rname_0 l := by unfold name_0 rname_0; rw [of_0_eq]
theorem name_1_eq (l : List UInt8) : name_1 l = rname_1 l := by unfold name_1 rname_1; rw [of_1_eq]
theorem node_0_eq (l : List UInt8) : node_0 l = rnode_0 l := by
 unfold node_0 rnode_0
 have e : decide ((0 : Int) < (l.length : Int)) = decide ((1 : Int) ≤ (l.length : Int)) := decide_eq_decide.2 (by omega)
 rw [e]
theorem rkind_eq {n : Nat} (h : n < 18446744073709551616) : rkind_0 n = Sx.kindDef n := by
 unfold rkind_0 Sx.kindDef
 rw [Sx.kE_is h, Sx.kR_is h]
 simp only [Bool.cond_decide]
 have e : Int.tmod (n : Int) 9223372036854775808 = ((n % 9223372036854775808 : Nat) : Int) := by rw [Int.tmod_eq_emod_of_nonneg (by omega)]; omega
 rw [e]
 repeat' split
 all_goals omega
theorem kind_fin {v : Nat} (h : v < 18446744073709551616) (hk : decide ((2 : Int) < Sx.kindDef v) = false) : Sx.isnan v = false := by
 cases hn : Sx.isnan v with
 | false => rfl
 | true => rw [Sx.kind_nan h hn] at hk; simp at hk
theorem fgt_not {v : Nat} (h : v < 18446744073709551616) (hn : Sx.isnan v = false) : Sx.fgt (Sx.cn v) (Sx.cn 0) = !Sx.fle (Sx.cn v) (Sx.cn 0) := by
 have e := Sx.order_rk (x := v) (y := 0) h (by omega) hn (by decide)
 unfold Sx.fgt Sx.fle
 rw [Sx.forder_cn, e]
 cases compare (Sx.rk v) (Sx.rk 0) <;> rfl
theorem chk_eq (k : Int) (n a b c d : List UInt8) (v : Nat) (hv : v < 18446744073709551616) (ph : Int) : chk_0 k n a b c d v ph = rchk_0 k n a b c d v ph := by
 unfold chk_0 rchk_0
 simp only [row_2_eq, row_3_eq, row_4_eq, row_5_eq, name_0_eq, name_1_eq, node_0_eq, rkind_eq hv]
 cases hk : decide ((2 : Int) < Sx.kindDef v) with
 | true => simp only [cond_true]
 | false =>
  rw [fgt_not hv (kind_fin hv hk)]
  simp only [Bool.cond_not]
noncomputable def rchk2S : List Sx.AV → Sx.M Sx.AV
 | [.agg [.int s0 .u8 k, .str s1 n, .str s2 a, .str s3 b, .str s4 c, .str s5 d, .raw s6 v, .int s7 .i64 ph]] => (Sx.M.req (v < 18446744073709551616)).andThen fun _ => Sx.M.ret (Sx.AV.int (Bool.or s0 (Bool.or s1 (Bool.or s2 (Bool.or s3 (Bool.or s4 (Bool.or s5 (Bool.or s6 s7))))))) .i64 (chk_0 k n a b c d v ph))
 | args => callE 39 args
theorem rchk2S_ok : ∀ args v g g', rchk2S args g = .done v g' → Sx.CallIs Try.prog 39 args v g g' := by
 intro args v g g' h
 unfold rchk2S at h
 split at h
 ·rename_i s0 k s1 n s2 a s3 b s4 c s5 d s6 v s7 ph
  obtain ⟨_, g1, a1, h1⟩ := Sx.done_of h
  obtain ⟨rfl, rfl⟩ := Sx.ret_done h1
  have kq := Sx.req_done a1
  have hS := rchkS_ok [.agg [.int s0 .u8 k, .str s1 n, .str s2 a, .str s3 b, .str s4 c, .str s5 d, .raw s6 v, .int s7 .i64 ph]] (Sx.AV.int (Bool.or s0 (Bool.or s1 (Bool.or s2 (Bool.or s3 (Bool.or s4 (Bool.or s5 (Bool.or s6 s7))))))) .i64 (rchk_0 k n a b c d v ph)) g g rfl
  refine ⟨fun hc => (kq.2.2 hc).1, fun hc μ w cargs hg ha => ?_⟩
  have hp := kq.2.2 hc
  refine (hS.2 hp.1 μ w cargs hg ha).mono fun cv w' hA => ?_
  rw [← chk_eq _ _ _ _ _ _ _ hp.2] at hA
  exact hA.keepR kq
 ·exact callE_ok _ _ _ _ _ h
theorem rchk2S_tch : ∀ args, Sx.Tch (rchk2S args) := by
 intro args
 unfold rchk2S
 split
 ·exact (Sx.Tch.req _).andThen fun _ => Sx.Tch.ret _
 ·exact callE_tch _ _
noncomputable def gamF2 : Sx.Known := Sx.kc 36 Sx.ofBits (Sx.kc 62 Sx.toBits (Sx.kc 81 smallS (Sx.kc 85 bytesS (Sx.kc 66 kindS (Sx.kc 72 rkindS (Sx.kc 63 rowOfS (Sx.kc 69 rrowS (Sx.kc 82 ofS (Sx.kc 86 rofS (Sx.kc 64 nameS (Sx.kc 70 rnameS (Sx.kc 65 nodeS (Sx.kc 71 rnodeS (Sx.kc 37 chkS (Sx.kc 88 constS (Sx.kc 89 rconstS (Sx.kc 41 srealS (Sx.kc 68 root2S (Sx.kc 73 rroot2S (Sx.kc 39 rchk2S (Sx.kn)))))))))))))))))))))
theorem gamF2_ok : Sx.KnownOk Try.prog gamF2 := Sx.kc_ok ((Sx.ofBits_is Try.prog).callIs Try.func36 (by kernel_rfl) (by kernel_rfl) (by kernel_rfl) (by kernel_rfl)) (Sx.kc_ok ((Sx.toBits_is Try.prog).callIs Try.func62 (by kernel_rfl) (by kernel_rfl) (by kernel_rfl) (by kernel_rfl)) (Sx.kc_ok smallS_ok (Sx.kc_ok bytesS_ok (Sx.kc_ok kindS_ok (Sx.kc_ok rkindS_ok (Sx.kc_ok rowOfS_ok (Sx.kc_ok rrowS_ok (Sx.kc_ok ofS_ok (Sx.kc_ok rofS_ok (Sx.kc_ok nameS_ok (Sx.kc_ok rnameS_ok (Sx.kc_ok nodeS_ok (Sx.kc_ok rnodeS_ok (Sx.kc_ok chkS_ok (Sx.kc_ok constS_ok (Sx.kc_ok rconstS_ok (Sx.kc_ok srealS_ok (Sx.kc_ok root2S_ok (Sx.kc_ok rroot2S_ok (Sx.kc_ok rchk2S_ok (Sx.kn_ok)))))))))))))))))))))
theorem gamF2_tch : Sx.KnownT gamF2 := Sx.kc_tch Sx.Tch.ofBits (Sx.kc_tch Sx.Tch.toBits (Sx.kc_tch smallS_tch (Sx.kc_tch bytesS_tch (Sx.kc_tch kindS_tch (Sx.kc_tch rkindS_tch (Sx.kc_tch rowOfS_tch (Sx.kc_tch rrowS_tch (Sx.kc_tch ofS_tch (Sx.kc_tch rofS_tch (Sx.kc_tch nameS_tch (Sx.kc_tch rnameS_tch (Sx.kc_tch nodeS_tch (Sx.kc_tch rnodeS_tch (Sx.kc_tch chkS_tch (Sx.kc_tch constS_tch (Sx.kc_tch rconstS_tch (Sx.kc_tch srealS_tch (Sx.kc_tch root2S_tch (Sx.kc_tch rroot2S_tch (Sx.kc_tch rchk2S_tch (Sx.kn_tch)))))))))))))))))))))
noncomputable def callF2 : Sx.Calls' := Sx.runN Try.prog gamF2 (Sx.regionC Try.prog) 1000 50
theorem callF2_ok : Sx.CallOk Try.prog callF2 := Sx.engineC gamF2_ok gamF2_tch (by kernel_rfl) (by kernel_rfl) 1000 50
theorem callF2_tch : Sx.CallT callF2 := Sx.runA_tch gamF2_tch (fun _ _ _ h => by cases h) (fun call hc n l fr => Sx.regionC_tch hc n l fr) 50
theorem callF2_reg (n : Nat) : Sx.RegionOk Try.prog (Sx.regionC Try.prog callF2 n) n := Sx.runN_regionC gamF2_ok gamF2_tch (by kernel_rfl) (by kernel_rfl) 1000 50 n

theorem law_r0 (k : Int) (n a b c d : List UInt8) (v ph : Int) (c0 : (0 : Int) ≤ v) (c1 : v < (18446744073709551616 : Int)) (c2 : (!decide (chk_0 k n a b c d (Int.toNat v) ph = (0 : Int))) = false) (c3 : (!decide (k = (4 : Int))) = false) (c4 : Int.toNat v < (18446744073709551616 : Nat)) (c5 : decide (Sx.fmul (Sx.cn (Int.toNat v)) (cos_0 (Int.tmod (Int.tmod ph (24 : Int) + (24 : Int)) (24 : Int))) = Sx.fmul (Sx.cn (Int.toNat v)) (cos_0 (Int.tmod (Int.tmod ph (24 : Int) + (24 : Int)) (24 : Int)))) = true) (c6 : decide (Sx.fmul (Sx.cn (Int.toNat v)) (cos_0 (Int.tmod (Int.tmod (Int.tmod ph (24 : Int) + (24 : Int)) (24 : Int) + (18 : Int)) (24 : Int))) = Sx.fmul (Sx.cn (Int.toNat v)) (cos_0 (Int.tmod (Int.tmod (Int.tmod ph (24 : Int) + (24 : Int)) (24 : Int) + (18 : Int)) (24 : Int)))) = true) : Sx.PureP (Sx.AV.bool true) (callF2 3 [.agg [.int true .u8 k, .str true n, .str true a, .str true b, .str true c, .str true d, .int true .u64 v, .int true .i64 ph]] (Sx.G.on [false, false, false, false, true, true])) := Sx.eqq (q := ((((((((True ∧ (((0 : Int) ≤ v) ∧ (v < (18446744073709551616 : Int)))) ∧ ((!decide (chk_0 k n a b c d (Int.toNat v) ph = (0 : Int))) = false)) ∧ ((!decide (k = (4 : Int))) = false)) ∧ (Int.toNat v < (18446744073709551616 : Nat))) ∧ ((!decide (chk_0 k n a b c d (Int.toNat v) ph = (0 : Int))) = false)) ∧ ((!decide (k = (4 : Int))) = false)) ∧ (decide (Sx.fmul (Sx.cn (Int.toNat v)) (cos_0 (Int.tmod (Int.tmod ph (24 : Int) + (24 : Int)) (24 : Int))) = Sx.fmul (Sx.cn (Int.toNat v)) (cos_0 (Int.tmod (Int.tmod ph (24 : Int) + (24 : Int)) (24 : Int)))) = true)) ∧ (decide (Sx.fmul (Sx.cn (Int.toNat v)) (cos_0 (Int.tmod (Int.tmod (Int.tmod ph (24 : Int) + (24 : Int)) (24 : Int) + (18 : Int)) (24 : Int))) = Sx.fmul (Sx.cn (Int.toNat v)) (cos_0 (Int.tmod (Int.tmod (Int.tmod ph (24 : Int) + (24 : Int)) (24 : Int) + (18 : Int)) (24 : Int)))) = true))) (by kernel_rfl) ⟨⟨⟨⟨⟨⟨⟨⟨trivial, ⟨c0, c1⟩⟩, c2⟩, c3⟩, c4⟩, c2⟩, c3⟩, c5⟩, c6⟩
theorem law_r1 (k : Int) (n a b c d : List UInt8) (v ph : Int) (c0 : (0 : Int) ≤ v) (c1 : v < (18446744073709551616 : Int)) (c2 : (!decide (chk_0 k n a b c d (Int.toNat v) ph = (0 : Int))) = false) (c3 : (!decide (k = (4 : Int))) = false) (c4 : Int.toNat v < (18446744073709551616 : Nat)) (c5 : decide (Sx.fmul (Sx.cn (Int.toNat v)) (cos_0 (Int.tmod (Int.tmod ph (24 : Int) + (24 : Int)) (24 : Int))) = Sx.fmul (Sx.cn (Int.toNat v)) (cos_0 (Int.tmod (Int.tmod ph (24 : Int) + (24 : Int)) (24 : Int)))) = true) (c6 : decide (Sx.fmul (Sx.cn (Int.toNat v)) (cos_0 (Int.tmod (Int.tmod (Int.tmod ph (24 : Int) + (24 : Int)) (24 : Int) + (18 : Int)) (24 : Int))) = Sx.fmul (Sx.cn (Int.toNat v)) (cos_0 (Int.tmod (Int.tmod (Int.tmod ph (24 : Int) + (24 : Int)) (24 : Int) + (18 : Int)) (24 : Int)))) = false) : Sx.PureP (Sx.AV.bool false) (callF2 3 [.agg [.int true .u8 k, .str true n, .str true a, .str true b, .str true c, .str true d, .int true .u64 v, .int true .i64 ph]] (Sx.G.on [false, false, false, false, true, false])) := Sx.eqq (q := ((((((((True ∧ (((0 : Int) ≤ v) ∧ (v < (18446744073709551616 : Int)))) ∧ ((!decide (chk_0 k n a b c d (Int.toNat v) ph = (0 : Int))) = false)) ∧ ((!decide (k = (4 : Int))) = false)) ∧ (Int.toNat v < (18446744073709551616 : Nat))) ∧ ((!decide (chk_0 k n a b c d (Int.toNat v) ph = (0 : Int))) = false)) ∧ ((!decide (k = (4 : Int))) = false)) ∧ (decide (Sx.fmul (Sx.cn (Int.toNat v)) (cos_0 (Int.tmod (Int.tmod ph (24 : Int) + (24 : Int)) (24 : Int))) = Sx.fmul (Sx.cn (Int.toNat v)) (cos_0 (Int.tmod (Int.tmod ph (24 : Int) + (24 : Int)) (24 : Int)))) = true)) ∧ (decide (Sx.fmul (Sx.cn (Int.toNat v)) (cos_0 (Int.tmod (Int.tmod (Int.tmod ph (24 : Int) + (24 : Int)) (24 : Int) + (18 : Int)) (24 : Int))) = Sx.fmul (Sx.cn (Int.toNat v)) (cos_0 (Int.tmod (Int.tmod (Int.tmod ph (24 : Int) + (24 : Int)) (24 : Int) + (18 : Int)) (24 : Int)))) = false))) (by kernel_rfl) ⟨⟨⟨⟨⟨⟨⟨⟨trivial, ⟨c0, c1⟩⟩, c2⟩, c3⟩, c4⟩, c2⟩, c3⟩, c5⟩, c6⟩
theorem law_r2 (k : Int) (n a b c d : List UInt8) (v ph : Int) (c0 : (0 : Int) ≤ v) (c1 : v < (18446744073709551616 : Int)) (c2 : (!decide (chk_0 k n a b c d (Int.toNat v) ph = (0 : Int))) = false) (c3 : (!decide (k = (4 : Int))) = false) (c4 : Int.toNat v < (18446744073709551616 : Nat)) (c5 : decide (Sx.fmul (Sx.cn (Int.toNat v)) (cos_0 (Int.tmod (Int.tmod ph (24 : Int) + (24 : Int)) (24 : Int))) = Sx.fmul (Sx.cn (Int.toNat v)) (cos_0 (Int.tmod (Int.tmod ph (24 : Int) + (24 : Int)) (24 : Int)))) = false) : Sx.PureP (Sx.AV.bool false) (callF2 3 [.agg [.int true .u8 k, .str true n, .str true a, .str true b, .str true c, .str true d, .int true .u64 v, .int true .i64 ph]] (Sx.G.on [false, false, false, false, false])) := Sx.eqq (q := (((((((True ∧ (((0 : Int) ≤ v) ∧ (v < (18446744073709551616 : Int)))) ∧ ((!decide (chk_0 k n a b c d (Int.toNat v) ph = (0 : Int))) = false)) ∧ ((!decide (k = (4 : Int))) = false)) ∧ (Int.toNat v < (18446744073709551616 : Nat))) ∧ ((!decide (chk_0 k n a b c d (Int.toNat v) ph = (0 : Int))) = false)) ∧ ((!decide (k = (4 : Int))) = false)) ∧ (decide (Sx.fmul (Sx.cn (Int.toNat v)) (cos_0 (Int.tmod (Int.tmod ph (24 : Int) + (24 : Int)) (24 : Int))) = Sx.fmul (Sx.cn (Int.toNat v)) (cos_0 (Int.tmod (Int.tmod ph (24 : Int) + (24 : Int)) (24 : Int)))) = false))) (by kernel_rfl) ⟨⟨⟨⟨⟨⟨⟨trivial, ⟨c0, c1⟩⟩, c2⟩, c3⟩, c4⟩, c2⟩, c3⟩, c5⟩
theorem law_r3 (k : Int) (n a b c d : List UInt8) (v ph : Int) (c0 : (0 : Int) ≤ v) (c1 : v < (18446744073709551616 : Int)) (c2 : (!decide (chk_0 k n a b c d (Int.toNat v) ph = (0 : Int))) = false) (c3 : (!decide (k = (4 : Int))) = true) (c4 : (!decide (k = (5 : Int))) = false) (c5 : Int.toNat v < (18446744073709551616 : Nat)) (c6 : decide (Sx.fmul (Sx.cn (Int.toNat v)) (cos_0 (Int.tmod (Int.tmod ph (24 : Int) + (24 : Int)) (24 : Int))) = Sx.fmul (Sx.cn (Int.toNat v)) (cos_0 (Int.tmod (Int.tmod ph (24 : Int) + (24 : Int)) (24 : Int)))) = true) (c7 : decide (Sx.fmul (Sx.cn (Int.toNat v)) (cos_0 (Int.tmod (Int.tmod (Int.tmod ph (24 : Int) + (24 : Int)) (24 : Int) + (18 : Int)) (24 : Int))) = Sx.fmul (Sx.cn (Int.toNat v)) (cos_0 (Int.tmod (Int.tmod (Int.tmod ph (24 : Int) + (24 : Int)) (24 : Int) + (18 : Int)) (24 : Int)))) = true) : Sx.PureP (Sx.AV.bool true) (callF2 3 [.agg [.int true .u8 k, .str true n, .str true a, .str true b, .str true c, .str true d, .int true .u64 v, .int true .i64 ph]] (Sx.G.on [false, true, false, false, true, false, true, true])) := Sx.eqq (q := ((((((((((True ∧ (((0 : Int) ≤ v) ∧ (v < (18446744073709551616 : Int)))) ∧ ((!decide (chk_0 k n a b c d (Int.toNat v) ph = (0 : Int))) = false)) ∧ ((!decide (k = (4 : Int))) = true)) ∧ ((!decide (k = (5 : Int))) = false)) ∧ (Int.toNat v < (18446744073709551616 : Nat))) ∧ ((!decide (chk_0 k n a b c d (Int.toNat v) ph = (0 : Int))) = false)) ∧ ((!decide (k = (4 : Int))) = true)) ∧ ((!decide (k = (5 : Int))) = false)) ∧ (decide (Sx.fmul (Sx.cn (Int.toNat v)) (cos_0 (Int.tmod (Int.tmod ph (24 : Int) + (24 : Int)) (24 : Int))) = Sx.fmul (Sx.cn (Int.toNat v)) (cos_0 (Int.tmod (Int.tmod ph (24 : Int) + (24 : Int)) (24 : Int)))) = true)) ∧ (decide (Sx.fmul (Sx.cn (Int.toNat v)) (cos_0 (Int.tmod (Int.tmod (Int.tmod ph (24 : Int) + (24 : Int)) (24 : Int) + (18 : Int)) (24 : Int))) = Sx.fmul (Sx.cn (Int.toNat v)) (cos_0 (Int.tmod (Int.tmod (Int.tmod ph (24 : Int) + (24 : Int)) (24 : Int) + (18 : Int)) (24 : Int)))) = true))) (by kernel_rfl) ⟨⟨⟨⟨⟨⟨⟨⟨⟨⟨trivial, ⟨c0, c1⟩⟩, c2⟩, c3⟩, c4⟩, c5⟩, c2⟩, c3⟩, c4⟩, c6⟩, c7⟩
theorem law_r4 (k : Int) (n a b c d : List UInt8) (v ph : Int) (c0 : (0 : Int) ≤ v) (c1 : v < (18446744073709551616 : Int)) (c2 : (!decide (chk_0 k n a b c d (Int.toNat v) ph = (0 : Int))) = false) (c3 : (!decide (k = (4 : Int))) = true) (c4 : (!decide (k = (5 : Int))) = false) (c5 : Int.toNat v < (18446744073709551616 : Nat)) (c6 : decide (Sx.fmul (Sx.cn (Int.toNat v)) (cos_0 (Int.tmod (Int.tmod ph (24 : Int) + (24 : Int)) (24 : Int))) = Sx.fmul (Sx.cn (Int.toNat v)) (cos_0 (Int.tmod (Int.tmod ph (24 : Int) + (24 : Int)) (24 : Int)))) = true) (c7 : decide (Sx.fmul (Sx.cn (Int.toNat v)) (cos_0 (Int.tmod (Int.tmod (Int.tmod ph (24 : Int) + (24 : Int)) (24 : Int) + (18 : Int)) (24 : Int))) = Sx.fmul (Sx.cn (Int.toNat v)) (cos_0 (Int.tmod (Int.tmod (Int.tmod ph (24 : Int) + (24 : Int)) (24 : Int) + (18 : Int)) (24 : Int)))) = false) : Sx.PureP (Sx.AV.bool false) (callF2 3 [.agg [.int true .u8 k, .str true n, .str true a, .str true b, .str true c, .str true d, .int true .u64 v, .int true .i64 ph]] (Sx.G.on [false, true, false, false, true, false, true, false])) := Sx.eqq (q := ((((((((((True ∧ (((0 : Int) ≤ v) ∧ (v < (18446744073709551616 : Int)))) ∧ ((!decide (chk_0 k n a b c d (Int.toNat v) ph = (0 : Int))) = false)) ∧ ((!decide (k = (4 : Int))) = true)) ∧ ((!decide (k = (5 : Int))) = false)) ∧ (Int.toNat v < (18446744073709551616 : Nat))) ∧ ((!decide (chk_0 k n a b c d (Int.toNat v) ph = (0 : Int))) = false)) ∧ ((!decide (k = (4 : Int))) = true)) ∧ ((!decide (k = (5 : Int))) = false)) ∧ (decide (Sx.fmul (Sx.cn (Int.toNat v)) (cos_0 (Int.tmod (Int.tmod ph (24 : Int) + (24 : Int)) (24 : Int))) = Sx.fmul (Sx.cn (Int.toNat v)) (cos_0 (Int.tmod (Int.tmod ph (24 : Int) + (24 : Int)) (24 : Int)))) = true)) ∧ (decide (Sx.fmul (Sx.cn (Int.toNat v)) (cos_0 (Int.tmod (Int.tmod (Int.tmod ph (24 : Int) + (24 : Int)) (24 : Int) + (18 : Int)) (24 : Int))) = Sx.fmul (Sx.cn (Int.toNat v)) (cos_0 (Int.tmod (Int.tmod (Int.tmod ph (24 : Int) + (24 : Int)) (24 : Int) + (18 : Int)) (24 : Int)))) = false))) (by kernel_rfl) ⟨⟨⟨⟨⟨⟨⟨⟨⟨⟨trivial, ⟨c0, c1⟩⟩, c2⟩, c3⟩, c4⟩, c5⟩, c2⟩, c3⟩, c4⟩, c6⟩, c7⟩
theorem law_r5 (k : Int) (n a b c d : List UInt8) (v ph : Int) (c0 : (0 : Int) ≤ v) (c1 : v < (18446744073709551616 : Int)) (c2 : (!decide (chk_0 k n a b c d (Int.toNat v) ph = (0 : Int))) = false) (c3 : (!decide (k = (4 : Int))) = true) (c4 : (!decide (k = (5 : Int))) = false) (c5 : Int.toNat v < (18446744073709551616 : Nat)) (c6 : decide (Sx.fmul (Sx.cn (Int.toNat v)) (cos_0 (Int.tmod (Int.tmod ph (24 : Int) + (24 : Int)) (24 : Int))) = Sx.fmul (Sx.cn (Int.toNat v)) (cos_0 (Int.tmod (Int.tmod ph (24 : Int) + (24 : Int)) (24 : Int)))) = false) : Sx.PureP (Sx.AV.bool false) (callF2 3 [.agg [.int true .u8 k, .str true n, .str true a, .str true b, .str true c, .str true d, .int true .u64 v, .int true .i64 ph]] (Sx.G.on [false, true, false, false, true, false, false])) := Sx.eqq (q := (((((((((True ∧ (((0 : Int) ≤ v) ∧ (v < (18446744073709551616 : Int)))) ∧ ((!decide (chk_0 k n a b c d (Int.toNat v) ph = (0 : Int))) = false)) ∧ ((!decide (k = (4 : Int))) = true)) ∧ ((!decide (k = (5 : Int))) = false)) ∧ (Int.toNat v < (18446744073709551616 : Nat))) ∧ ((!decide (chk_0 k n a b c d (Int.toNat v) ph = (0 : Int))) = false)) ∧ ((!decide (k = (4 : Int))) = true)) ∧ ((!decide (k = (5 : Int))) = false)) ∧ (decide (Sx.fmul (Sx.cn (Int.toNat v)) (cos_0 (Int.tmod (Int.tmod ph (24 : Int) + (24 : Int)) (24 : Int))) = Sx.fmul (Sx.cn (Int.toNat v)) (cos_0 (Int.tmod (Int.tmod ph (24 : Int) + (24 : Int)) (24 : Int)))) = false))) (by kernel_rfl) ⟨⟨⟨⟨⟨⟨⟨⟨⟨trivial, ⟨c0, c1⟩⟩, c2⟩, c3⟩, c4⟩, c5⟩, c2⟩, c3⟩, c4⟩, c6⟩
theorem law_r6 (k : Int) (n a b c d : List UInt8) (v ph : Int) (c0 : (0 : Int) ≤ v) (c1 : v < (18446744073709551616 : Int)) (c2 : (!decide (chk_0 k n a b c d (Int.toNat v) ph = (0 : Int))) = false) (c3 : (!decide (k = (4 : Int))) = true) (c4 : (!decide (k = (5 : Int))) = true) (c5 : Int.toNat v < (18446744073709551616 : Nat)) : Sx.PureP (Sx.AV.bool true) (callF2 3 [.agg [.int true .u8 k, .str true n, .str true a, .str true b, .str true c, .str true d, .int true .u64 v, .int true .i64 ph]] (Sx.G.on [false, true, true, false, true, true])) := Sx.eqq (q := ((((((((True ∧ (((0 : Int) ≤ v) ∧ (v < (18446744073709551616 : Int)))) ∧ ((!decide (chk_0 k n a b c d (Int.toNat v) ph = (0 : Int))) = false)) ∧ ((!decide (k = (4 : Int))) = true)) ∧ ((!decide (k = (5 : Int))) = true)) ∧ (Int.toNat v < (18446744073709551616 : Nat))) ∧ ((!decide (chk_0 k n a b c d (Int.toNat v) ph = (0 : Int))) = false)) ∧ ((!decide (k = (4 : Int))) = true)) ∧ ((!decide (k = (5 : Int))) = true))) (by kernel_rfl) ⟨⟨⟨⟨⟨⟨⟨⟨trivial, ⟨c0, c1⟩⟩, c2⟩, c3⟩, c4⟩, c5⟩, c2⟩, c3⟩, c4⟩
theorem law_r7 (k : Int) (n a b c d : List UInt8) (v ph : Int) (c0 : (0 : Int) ≤ v) (c1 : v < (18446744073709551616 : Int)) (c2 : (!decide (chk_0 k n a b c d (Int.toNat v) ph = (0 : Int))) = true) (c3 : Int.toNat v < (18446744073709551616 : Nat)) : Sx.PureP (Sx.AV.sbool (decide (chk_0 k n a b c d (Int.toNat v) ph = chk_0 k n a b c d (Int.toNat v) ph))) (callF2 3 [.agg [.int true .u8 k, .str true n, .str true a, .str true b, .str true c, .str true d, .int true .u64 v, .int true .i64 ph]] (Sx.G.on [true, true])) := Sx.eqq (q := ((((True ∧ (((0 : Int) ≤ v) ∧ (v < (18446744073709551616 : Int)))) ∧ ((!decide (chk_0 k n a b c d (Int.toNat v) ph = (0 : Int))) = true)) ∧ (Int.toNat v < (18446744073709551616 : Nat))) ∧ ((!decide (chk_0 k n a b c d (Int.toNat v) ph = (0 : Int))) = true))) (by kernel_rfl) ⟨⟨⟨⟨trivial, ⟨c0, c1⟩⟩, c2⟩, c3⟩, c2⟩
noncomputable def law_0 (k : Int) (n a b c d : List UInt8) (v ph : Int) : Bool := (bif decide (chk_0 k n a b c d (Int.toNat v) ph = (0 : Int)) then (bif decide (k = (4 : Int)) then (bif decide (Sx.fmul (Sx.cn (Int.toNat v)) (cos_0 (Int.tmod (Int.tmod ph (24 : Int) + (24 : Int)) (24 : Int))) = Sx.fmul (Sx.cn (Int.toNat v)) (cos_0 (Int.tmod (Int.tmod ph (24 : Int) + (24 : Int)) (24 : Int)))) then (bif decide (Sx.fmul (Sx.cn (Int.toNat v)) (cos_0 (Int.tmod (Int.tmod (Int.tmod ph (24 : Int) + (24 : Int)) (24 : Int) + (18 : Int)) (24 : Int))) = Sx.fmul (Sx.cn (Int.toNat v)) (cos_0 (Int.tmod (Int.tmod (Int.tmod ph (24 : Int) + (24 : Int)) (24 : Int) + (18 : Int)) (24 : Int)))) then (true) else (false)) else (false)) else (bif decide (k = (5 : Int)) then (bif decide (Sx.fmul (Sx.cn (Int.toNat v)) (cos_0 (Int.tmod (Int.tmod ph (24 : Int) + (24 : Int)) (24 : Int))) = Sx.fmul (Sx.cn (Int.toNat v)) (cos_0 (Int.tmod (Int.tmod ph (24 : Int) + (24 : Int)) (24 : Int)))) then (bif decide (Sx.fmul (Sx.cn (Int.toNat v)) (cos_0 (Int.tmod (Int.tmod (Int.tmod ph (24 : Int) + (24 : Int)) (24 : Int) + (18 : Int)) (24 : Int))) = Sx.fmul (Sx.cn (Int.toNat v)) (cos_0 (Int.tmod (Int.tmod (Int.tmod ph (24 : Int) + (24 : Int)) (24 : Int) + (18 : Int)) (24 : Int)))) then (true) else (false)) else (false)) else (true))) else (decide (chk_0 k n a b c d (Int.toNat v) ph = chk_0 k n a b c d (Int.toNat v) ph)))
theorem law_road (k : Int) (n a b c d : List UInt8) (v ph : Int) (x0 : ((0 : Int) ≤ v)) (x1 : (v < (18446744073709551616 : Int))) (x2 : (Int.toNat v < (18446744073709551616 : Nat))) : ∃ path lv, Sx.PureP lv (callF2 3 [.agg [.int true .u8 k, .str true n, .str true a, .str true b, .str true c, .str true d, .int true .u64 v, .int true .i64 ph]] (Sx.G.on path)) ∧ lv.low 0 = true ∧ ∀ cv, (∀ N μ, Sx.Rep N μ lv cv) → cv = .bool (law_0 k n a b c d v ph) := by
 cases t0 : decide (chk_0 k n a b c d (Int.toNat v) ph = (0 : Int)) with
 | true =>
  cases t1 : decide (k = (4 : Int)) with
  | true =>
   cases t2 : decide (Sx.fmul (Sx.cn (Int.toNat v)) (cos_0 (Int.tmod (Int.tmod ph (24 : Int) + (24 : Int)) (24 : Int))) = Sx.fmul (Sx.cn (Int.toNat v)) (cos_0 (Int.tmod (Int.tmod ph (24 : Int) + (24 : Int)) (24 : Int)))) with
   | true =>
    cases t3 : decide (Sx.fmul (Sx.cn (Int.toNat v)) (cos_0 (Int.tmod (Int.tmod (Int.tmod ph (24 : Int) + (24 : Int)) (24 : Int) + (18 : Int)) (24 : Int))) = Sx.fmul (Sx.cn (Int.toNat v)) (cos_0 (Int.tmod (Int.tmod (Int.tmod ph (24 : Int) + (24 : Int)) (24 : Int) + (18 : Int)) (24 : Int)))) with
    | true =>
     exact ⟨_, _, law_r0 k n a b c d v ph (x0) (x1) (by rw [t0]; rfl) (by rw [t1]; rfl) (x2) t2 t3, rfl, fun cv hc => by have := hc 0 Sx.MM.none; have e0 : law_0 k n a b c d v ph = (true) := (Sx.ct t0).trans ((Sx.ct t1).trans ((Sx.ct t2).trans ((Sx.ct t3).trans (rfl)))); rw [e0]; simpa only [Sx.Rep] using this⟩
    | false =>
     exact ⟨_, _, law_r1 k n a b c d v ph (x0) (x1) (by rw [t0]; rfl) (by rw [t1]; rfl) (x2) t2 t3, rfl, fun cv hc => by have := hc 0 Sx.MM.none; have e0 : law_0 k n a b c d v ph = (false) := (Sx.ct t0).trans ((Sx.ct t1).trans ((Sx.ct t2).trans ((Sx.cf t3).trans (rfl)))); rw [e0]; simpa only [Sx.Rep] using this⟩
   | false =>
    exact ⟨_, _, law_r2 k n a b c d v ph (x0) (x1) (by rw [t0]; rfl) (by rw [t1]; rfl) (x2) t2, rfl, fun cv hc => by have := hc 0 Sx.MM.none; have e0 : law_0 k n a b c d v ph = (false) := (Sx.ct t0).trans ((Sx.ct t1).trans ((Sx.cf t2).trans (rfl))); rw [e0]; simpa only [Sx.Rep] using this⟩
  | false =>
   cases t2 : decide (k = (5 : Int)) with
   | true =>
    cases t3 : decide (Sx.fmul (Sx.cn (Int.toNat v)) (cos_0 (Int.tmod (Int.tmod ph (24 : Int) + (24 : Int)) (24 : Int))) = Sx.fmul (Sx.cn (Int.toNat v)) (cos_0 (Int.tmod (Int.tmod ph (24 : Int) + (24 : Int)) (24 : Int)))) with
    | true =>
     cases t4 : decide (Sx.fmul (Sx.cn (Int.toNat v)) (cos_0 (Int.tmod (Int.tmod (Int.tmod ph (24 : Int) + (24 : Int)) (24 : Int) + (18 : Int)) (24 : Int))) = Sx.fmul (Sx.cn (Int.toNat v)) (cos_0 (Int.tmod (Int.tmod (Int.tmod ph (24 : Int) + (24 : Int)) (24 : Int) + (18 : Int)) (24 : Int)))) with
     | true =>
      exact ⟨_, _, law_r3 k n a b c d v ph (x0) (x1) (by rw [t0]; rfl) (by rw [t1]; rfl) (by rw [t2]; rfl) (x2) t3 t4, rfl, fun cv hc => by have := hc 0 Sx.MM.none; have e0 : law_0 k n a b c d v ph = (true) := (Sx.ct t0).trans ((Sx.cf t1).trans ((Sx.ct t2).trans ((Sx.ct t3).trans ((Sx.ct t4).trans (rfl))))); rw [e0]; simpa only [Sx.Rep] using this⟩
     | false =>
      exact ⟨_, _, law_r4 k n a b c d v ph (x0) (x1) (by rw [t0]; rfl) (by rw [t1]; rfl) (by rw [t2]; rfl) (x2) t3 t4, rfl, fun cv hc => by have := hc 0 Sx.MM.none; have e0 : law_0 k n a b c d v ph = (false) := (Sx.ct t0).trans ((Sx.cf t1).trans ((Sx.ct t2).trans ((Sx.ct t3).trans ((Sx.cf t4).trans (rfl))))); rw [e0]; simpa only [Sx.Rep] using this⟩
    | false =>
     exact ⟨_, _, law_r5 k n a b c d v ph (x0) (x1) (by rw [t0]; rfl) (by rw [t1]; rfl) (by rw [t2]; rfl) (x2) t3, rfl, fun cv hc => by have := hc 0 Sx.MM.none; have e0 : law_0 k n a b c d v ph = (false) := (Sx.ct t0).trans ((Sx.cf t1).trans ((Sx.ct t2).trans ((Sx.cf t3).trans (rfl)))); rw [e0]; simpa only [Sx.Rep] using this⟩
   | false =>
    exact ⟨_, _, law_r6 k n a b c d v ph (x0) (x1) (by rw [t0]; rfl) (by rw [t1]; rfl) (by rw [t2]; rfl) (x2), rfl, fun cv hc => by have := hc 0 Sx.MM.none; have e0 : law_0 k n a b c d v ph = (true) := (Sx.ct t0).trans ((Sx.cf t1).trans ((Sx.cf t2).trans (rfl))); rw [e0]; simpa only [Sx.Rep] using this⟩
 | false =>
  exact ⟨_, _, law_r7 k n a b c d v ph (x0) (x1) (by rw [t0]; rfl) (x2), rfl, fun cv hc => by have := hc 0 Sx.MM.none; have e0 : law_0 k n a b c d v ph = (decide (chk_0 k n a b c d (Int.toNat v) ph = chk_0 k n a b c d (Int.toNat v) ph)) := (Sx.cf t0).trans (rfl); rw [e0]; simpa only [Sx.Rep] using this⟩

theorem law_true (k : Int) (n a b c d : List UInt8) (v ph : Int) : law_0 k n a b c d v ph = true := by
 unfold law_0
 simp only [decide_true, cond_true]
 cases decide (chk_0 k n a b c d (Int.toNat v) ph = 0) <;> cases decide (k = 4) <;> cases decide (k = 5) <;> rfl
set_option maxRecDepth 100000 in
theorem law_walk {H : Type} {enc : TypeId × Value → H} {base : Nat} {ts : List TypeId} {ds : List (DataW H)} {d0 : DataW H} {p0 : List MemPlace} {wd : World} (v0 : Value) (hv0 : Value.okWide Try.prog wd .any base 24 v0) (h0 : DataW.Trod enc Try.prog wd 0 (fun _ => true) true 24 v0 d0 p0) (z0 : (DataW.weightsEach Try.prog ts ds).all (· ≤ reachBytes) = true) (w' : World) (hw : w' = wd) :
  Calls Try.prog 3 #[v0] wd fun e w' => e = .returned (.bool true) ∧ Below wd.heap.size wd w' := by
 obtain ⟨c, hr, hok⟩ := Sx.open_agg (n := 3) (shs := [.int .u8, .str, .str, .str, .str, .str, .int .u64, .int .i64]) Try.underlying24 (by kernel_rfl) (by kernel_rfl) hv0 h0
 have bd : ∀ {x : Value}, (Sx.Sh.int .u64).ok x → 0 ≤ Sx.intOf x ∧ Sx.intOf x < 18446744073709551616 := fun {x} h => by
  obtain ⟨n, rfl, hw⟩ := h
  have := bounds_u64 hw
  simp only [Sx.intOf]; omega
 have b1 := bd (hok 6 _ rfl)
 obtain ⟨path, lv, h1, h2, h3⟩ := law_road (Sx.intOf (c 0)) (Sx.strOf (c 1)) (Sx.strOf (c 2)) (Sx.strOf (c 3)) (Sx.strOf (c 4)) (Sx.strOf (c 5)) (Sx.intOf (c 6)) (Sx.intOf (c 7)) b1.1 b1.2 (by omega)
 exact Sx.pure_true callF2_ok Try.func3 rfl (by kernel_rfl) h1 h2 (fun cv hc => by rw [h3 cv hc, law_true]) wd (by simp only [Sx.Reps]; exact ⟨v0, _, rfl, hr 0 _, rfl⟩)



set_option maxRecDepth 100000 in
theorem law_lifted (os : Os) (started : os.Started) (H : Type) (enc : TypeId × Value → H) :
  ReturnsInHanded {} Try.checked os 3 .any (Rows.sourcePhasorsSpec.pre6 enc Try.prog Try.f3 Rows.sourcePhasorsRow.domain false) (Rows.sourcePhasorsSpec.post enc Try.prog Try.f3 false true false false) := by
 refine returnsInHanded_of_change_sized (C := Try.checked) own started (by kernel_rfl) Try.func3
  (ChangeSpec.witness6 (enc := enc) (C := Try.checked) false ⟨#[], #[.agg #[.int .u8 0, .string ⟨#[]⟩, .string ⟨#[]⟩, .string ⟨#[]⟩, .string ⟨#[]⟩, .string ⟨#[]⟩, .int .u64 0, .int .i64 0]], []⟩ 8 (by kernel_rfl) (by kernel_rfl) (by kernel_rfl) (by kernel_rfl)) ?_
 intro W base args ds gs before hval0 hW hcnd hsz0 _
 have hval : ∀ (j : Nat) t v, Try.f3.params[j]? = some t → args[j]? = some v → Value.okWide Try.prog W .any base t v := hval0
 have hsz1 : (DataW.weightsEach Try.prog (Try.f3.params.toList ++ Rows.sourcePhasorsSpec.plain.varTypes Try.prog) (ds ++ gs)).all (· ≤ reachBytes) = true := hsz0
 have hsz : (DataW.weightsEach Try.prog [24] (ds ++ gs)).all (· ≤ reachBytes) = true := by
  have e : Try.f3.params.toList ++ Rows.sourcePhasorsSpec.plain.varTypes Try.prog = [24] := by rw [Try.params3]; kernel_rfl
  rw [← e]; exact hsz1
 have hW' := hW
 obtain ⟨p, q, hA0, hV, rfl, hfz, hnd⟩ := hW
 have hA : DataW.TrodAll enc Try.prog W 0 (fun _ => true) true Try.f3.params.toList args.toList ds p := hA0
 rw [Try.params3] at hA hval
 obtain ⟨v0, vs0, d0, ds0, p0, q0, hargs, rfl, rfl, h0, r0⟩ := trodAll_cons hA
 obtain ⟨rfl, rfl, rfl⟩ := trodAll_nil r0
 obtain rfl : args = #[v0] := by cases args; simp_all
 obtain ⟨rfl, rfl⟩ := trodVars_none hV
 rw [List.append_nil] at hsz
 have hk0 := h0
 have hlt0 : ∀ x ∈ p0, x.block < W.heap.size := DataW.TrodAll.lt (trodAll_mk1 h0)
 clear hA0 hval0 hsz0 hsz1
 refine (law_walk v0 (hval 0 24 v0 rfl rfl) h0 hsz W rfl).mono fun e W' ⟨he, bel⟩ => ?_
 subst he
 exact ⟨_, rfl, _, _, _, [], _, [], hW', trodAll_mk1 (shut_bool Try.underlying4 _), (trodAll_cons_mk (Below.trod laidOut (by kernel_rfl) (of_decide_eq_true (by kernel_rfl)) hk0 bel hlt0) trodAll_mk0), rfl, bel.frame _, fun h => by cases h⟩
theorem law_over : Rows.sourcePhasorsRow.holds Try.pinned (OpenSpec.ofChange Rows.sourcePhasorsSpec) :=
 OpenClaim.holds_of_wide 3 Try.f3 rfl rfl rfl rfl rfl rfl rfl ⟨rfl, rfl, rfl, rfl, rfl⟩ rfl rfl rfl rfl rfl (by kernel_rfl) Try.func3 (by kernel_rfl)
  (of_decide_eq_true (by kernel_rfl)) (by unfold Func.isWrapper; first | (rw [if_pos (by decide +kernel)]; kernel_rfl) | (rw [if_neg (by decide +kernel)]; exact ⟨rfl, rfl⟩))
  (fun os started H enc _ => law_lifted os started H enc)
/-- THE STATEMENT -/
theorem sourcePhasors_proved : Rows.SourcePhasorsSaid := law_over
#print axioms sourcePhasors_proved
end Go.Proofs.Ytdagokpedjfepaa
