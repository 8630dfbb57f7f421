/- BisectNames: the closed statement returns true, whatever the start; no conditions. By the engine's run, checked by the kernel. -/
import Derived.Test.YtilmplaobpmdpaaRows
import Derived.ProofKit
import Derived.OpenShut
import Derived.KernelRfl
import Derived.Test.YtilmplaobpmdpaaSyH
namespace Go.Proofs.Ytilmplaobpmdpaa
open Go.ChangeShapes Go.WideShapes Go.ChangeAt Go.RowKit
set_option linter.unusedVariables false

theorem own : ownKnob Try.prog.godebug = none := by kernel_rfl
set_option linter.unusedVariables false
set_option linter.unusedSimpArgs false
noncomputable def gam0 : Sx.Known := fun f => bif Nat.beq f 11 then some Sx.ofBits else bif Nat.beq f 48 then some Sx.toBits else none
theorem gam0_ok : Sx.KnownOk Try.prog gam0 := by
  intro f s h
  unfold gam0 at h
  cases h1 : Nat.beq f 11 with
  | true =>
    rw [h1] at h
    cases h
    cases Nat.eq_of_beq_eq_true h1
    exact (Sx.ofBits_is Try.prog).callIs Try.func11 (by kernel_rfl) (by kernel_rfl) (by kernel_rfl) (by kernel_rfl)
  | false =>
    rw [h1, cond_false] at h
    cases h2 : Nat.beq f 48 with
    | true =>
      rw [h2] at h
      cases h
      cases Nat.eq_of_beq_eq_true h2
      exact (Sx.toBits_is Try.prog).callIs Try.func48 (by kernel_rfl) (by kernel_rfl) (by kernel_rfl) (by kernel_rfl)
    | false => rw [h2] at h; cases h
theorem gam0_tch : Sx.KnownT gam0 := by
  intro f s h
  unfold gam0 at h
  cases h1 : Nat.beq f 11 with
  | true => rw [h1] at h; cases h; exact Sx.Tch.ofBits
  | false =>
    rw [h1, cond_false] at h
    cases h2 : Nat.beq f 48 with
    | true => rw [h2] at h; cases h; exact Sx.Tch.toBits
    | false => rw [h2] at h; cases h
noncomputable def call0 : Sx.Calls' := Sx.runA Try.prog gam0 (Sx.regionA Try.prog) 1000 50
theorem sound0 : Sx.CallOk Try.prog call0 := Sx.engine gam0_ok gam0_tch (by kernel_rfl) (by kernel_rfl) 1000 50

theorem fin_0 (n : Nat) (c0 : (0 : Int) ≤ Go.Sx.bitsV Go.BinOp.andNot Go.IntKind.u64 (↑n : Int) (9223372036854775808 : Int)) (c1 : Go.Sx.bitsV Go.BinOp.andNot Go.IntKind.u64 (↑n : Int) (9223372036854775808 : Int) < (18446744073709551616 : Int)) (c2 : (!Go.Sx.fgt (Go.Sx.cn (Int.toNat (Go.Sx.bitsV Go.BinOp.andNot Go.IntKind.u64 (↑n : Int) (9223372036854775808 : Int))))
      (Go.Sx.cn (9218868437227405311 : Nat))) =
  Bool.true) : Go.Sx.PureP (Go.Sx.AV.sbool (Go.Sx.feq (Go.Sx.cn n) (Go.Sx.cn n))) (call0 43 [.raw true n] (Go.Sx.G.on [true])) := by
  have e : Go.Sx.pureP (Go.Sx.AV.sbool (Go.Sx.feq (Go.Sx.cn n) (Go.Sx.cn n))) (call0 43 [.raw true n] (Go.Sx.G.on [true])) = ((Go.Sx.AV.sbool (Go.Sx.feq (Go.Sx.cn n) (Go.Sx.cn n))) = (Go.Sx.AV.sbool (Go.Sx.feq (Go.Sx.cn n) (Go.Sx.cn n))) ∧ ((True ∧ (((0 : Int) ≤ Go.Sx.bitsV Go.BinOp.andNot Go.IntKind.u64 (↑n : Int) (9223372036854775808 : Int)) ∧ (Go.Sx.bitsV Go.BinOp.andNot Go.IntKind.u64 (↑n : Int) (9223372036854775808 : Int) < (18446744073709551616 : Int)))) ∧ ((!Go.Sx.fgt (Go.Sx.cn (Int.toNat (Go.Sx.bitsV Go.BinOp.andNot Go.IntKind.u64 (↑n : Int) (9223372036854775808 : Int))))
      (Go.Sx.cn (9218868437227405311 : Nat))) =
  Bool.true))) := by kernel_rfl
  exact ⟨by rw [e]; exact ⟨rfl, ⟨⟨trivial, ⟨c0, c1⟩⟩, c2⟩⟩⟩
theorem fin_1 (n : Nat) (c0 : (0 : Int) ≤ Go.Sx.bitsV Go.BinOp.andNot Go.IntKind.u64 (↑n : Int) (9223372036854775808 : Int)) (c1 : Go.Sx.bitsV Go.BinOp.andNot Go.IntKind.u64 (↑n : Int) (9223372036854775808 : Int) < (18446744073709551616 : Int)) (c2 : (!Go.Sx.fgt (Go.Sx.cn (Int.toNat (Go.Sx.bitsV Go.BinOp.andNot Go.IntKind.u64 (↑n : Int) (9223372036854775808 : Int))))
      (Go.Sx.cn (9218868437227405311 : Nat))) =
  Bool.false) : Go.Sx.PureP (Go.Sx.AV.bool Bool.false) (call0 43 [.raw true n] (Go.Sx.G.on [false])) := by
  have e : Go.Sx.pureP (Go.Sx.AV.bool Bool.false) (call0 43 [.raw true n] (Go.Sx.G.on [false])) = ((Go.Sx.AV.bool Bool.false) = (Go.Sx.AV.bool Bool.false) ∧ ((True ∧ (((0 : Int) ≤ Go.Sx.bitsV Go.BinOp.andNot Go.IntKind.u64 (↑n : Int) (9223372036854775808 : Int)) ∧ (Go.Sx.bitsV Go.BinOp.andNot Go.IntKind.u64 (↑n : Int) (9223372036854775808 : Int) < (18446744073709551616 : Int)))) ∧ ((!Go.Sx.fgt (Go.Sx.cn (Int.toNat (Go.Sx.bitsV Go.BinOp.andNot Go.IntKind.u64 (↑n : Int) (9223372036854775808 : Int))))
      (Go.Sx.cn (9218868437227405311 : Nat))) =
  Bool.false))) := by kernel_rfl
  exact ⟨by rw [e]; exact ⟨rfl, ⟨⟨trivial, ⟨c0, c1⟩⟩, c2⟩⟩⟩
theorem rfin_0 (n : Nat) : Go.Sx.PureP (Go.Sx.AV.sbool (Go.Sx.feq (Go.Sx.fsub (Go.Sx.cn n) (Go.Sx.cn n)) (Go.Sx.cn (0 : Nat)))) (call0 46 [.raw true n] (Go.Sx.G.on [])) := by
  have e : Go.Sx.pureP (Go.Sx.AV.sbool (Go.Sx.feq (Go.Sx.fsub (Go.Sx.cn n) (Go.Sx.cn n)) (Go.Sx.cn (0 : Nat)))) (call0 46 [.raw true n] (Go.Sx.G.on [])) = ((Go.Sx.AV.sbool (Go.Sx.feq (Go.Sx.fsub (Go.Sx.cn n) (Go.Sx.cn n)) (Go.Sx.cn (0 : Nat)))) = (Go.Sx.AV.sbool (Go.Sx.feq (Go.Sx.fsub (Go.Sx.cn n) (Go.Sx.cn n)) (Go.Sx.cn (0 : Nat)))) ∧ True) := by kernel_rfl
  exact ⟨by rw [e]; exact ⟨rfl, trivial⟩⟩
theorem place_0 (n : Nat) (c0 : (!Go.Sx.feq (Go.Sx.cn n) (Go.Sx.cn n)) = Bool.true) : Go.Sx.PureP (Go.Sx.AV.tup [Go.Sx.AV.int Bool.false Go.IntKind.i64 (0 : Int), Go.Sx.AV.bool Bool.false]) (call0 24 [.raw true n] (Go.Sx.G.on [true])) := by
  have e : Go.Sx.pureP (Go.Sx.AV.tup [Go.Sx.AV.int Bool.false Go.IntKind.i64 (0 : Int), Go.Sx.AV.bool Bool.false]) (call0 24 [.raw true n] (Go.Sx.G.on [true])) = ((Go.Sx.AV.tup [Go.Sx.AV.int Bool.false Go.IntKind.i64 (0 : Int), Go.Sx.AV.bool Bool.false]) = (Go.Sx.AV.tup [Go.Sx.AV.int Bool.false Go.IntKind.i64 (0 : Int), Go.Sx.AV.bool Bool.false]) ∧ (True ∧ ((!Go.Sx.feq (Go.Sx.cn n) (Go.Sx.cn n)) = Bool.true))) := by kernel_rfl
  exact ⟨by rw [e]; exact ⟨rfl, ⟨trivial, c0⟩⟩⟩
theorem place_1 (n : Nat) (c0 : (!Go.Sx.feq (Go.Sx.cn n) (Go.Sx.cn n)) = Bool.false) (c1 : (-9223372036854775808 : Int) ≤ Go.Sx.bitsV Go.BinOp.andNot Go.IntKind.u64 (↑n : Int) (9223372036854775808 : Int)) (c2 : Go.Sx.bitsV Go.BinOp.andNot Go.IntKind.u64 (↑n : Int) (9223372036854775808 : Int) ≤ (9223372036854775807 : Int)) (c3 : (0 : Int) ≤ (63 : Int)) (c4 : Decidable.decide
    (Int.fdiv (↑n : Int) ((2 : Int) ^ Min.min (Int.toNat (63 : Int)) (Go.IntKind.bits Go.IntKind.u64)) = (1 : Int)) =
  Bool.true) (c5 : (-9223372036854775808 : Int) ≤
  (0 : Int) - Go.Sx.bitsV Go.BinOp.andNot Go.IntKind.u64 (↑n : Int) (9223372036854775808 : Int)) (c6 : (0 : Int) - Go.Sx.bitsV Go.BinOp.andNot Go.IntKind.u64 (↑n : Int) (9223372036854775808 : Int) ≤
  (9223372036854775807 : Int)) : Go.Sx.PureP (Go.Sx.AV.tup
  [Go.Sx.AV.int Bool.true Go.IntKind.i64
      ((0 : Int) - Go.Sx.bitsV Go.BinOp.andNot Go.IntKind.u64 (↑n : Int) (9223372036854775808 : Int)),
    Go.Sx.AV.bool Bool.true]) (call0 24 [.raw true n] (Go.Sx.G.on [false, true])) := by
  have e : Go.Sx.pureP (Go.Sx.AV.tup
  [Go.Sx.AV.int Bool.true Go.IntKind.i64
      ((0 : Int) - Go.Sx.bitsV Go.BinOp.andNot Go.IntKind.u64 (↑n : Int) (9223372036854775808 : Int)),
    Go.Sx.AV.bool Bool.true]) (call0 24 [.raw true n] (Go.Sx.G.on [false, true])) = ((Go.Sx.AV.tup
  [Go.Sx.AV.int Bool.true Go.IntKind.i64
      ((0 : Int) - Go.Sx.bitsV Go.BinOp.andNot Go.IntKind.u64 (↑n : Int) (9223372036854775808 : Int)),
    Go.Sx.AV.bool Bool.true]) = (Go.Sx.AV.tup
  [Go.Sx.AV.int Bool.true Go.IntKind.i64
      ((0 : Int) - Go.Sx.bitsV Go.BinOp.andNot Go.IntKind.u64 (↑n : Int) (9223372036854775808 : Int)),
    Go.Sx.AV.bool Bool.true]) ∧ (((((True ∧ ((!Go.Sx.feq (Go.Sx.cn n) (Go.Sx.cn n)) = Bool.false)) ∧ (((-9223372036854775808 : Int) ≤ Go.Sx.bitsV Go.BinOp.andNot Go.IntKind.u64 (↑n : Int) (9223372036854775808 : Int)) ∧ (Go.Sx.bitsV Go.BinOp.andNot Go.IntKind.u64 (↑n : Int) (9223372036854775808 : Int) ≤ (9223372036854775807 : Int)))) ∧ ((0 : Int) ≤ (63 : Int))) ∧ (Decidable.decide
    (Int.fdiv (↑n : Int) ((2 : Int) ^ Min.min (Int.toNat (63 : Int)) (Go.IntKind.bits Go.IntKind.u64)) = (1 : Int)) =
  Bool.true)) ∧ (((-9223372036854775808 : Int) ≤
  (0 : Int) - Go.Sx.bitsV Go.BinOp.andNot Go.IntKind.u64 (↑n : Int) (9223372036854775808 : Int)) ∧ ((0 : Int) - Go.Sx.bitsV Go.BinOp.andNot Go.IntKind.u64 (↑n : Int) (9223372036854775808 : Int) ≤
  (9223372036854775807 : Int))))) := by kernel_rfl
  exact ⟨by rw [e]; exact ⟨rfl, ⟨⟨⟨⟨⟨trivial, c0⟩, ⟨c1, c2⟩⟩, c3⟩, c4⟩, ⟨c5, c6⟩⟩⟩⟩
theorem place_2 (n : Nat) (c0 : (!Go.Sx.feq (Go.Sx.cn n) (Go.Sx.cn n)) = Bool.false) (c1 : (-9223372036854775808 : Int) ≤ Go.Sx.bitsV Go.BinOp.andNot Go.IntKind.u64 (↑n : Int) (9223372036854775808 : Int)) (c2 : Go.Sx.bitsV Go.BinOp.andNot Go.IntKind.u64 (↑n : Int) (9223372036854775808 : Int) ≤ (9223372036854775807 : Int)) (c3 : (0 : Int) ≤ (63 : Int)) (c4 : Decidable.decide
    (Int.fdiv (↑n : Int) ((2 : Int) ^ Min.min (Int.toNat (63 : Int)) (Go.IntKind.bits Go.IntKind.u64)) = (1 : Int)) =
  Bool.false) : Go.Sx.PureP (Go.Sx.AV.tup
  [Go.Sx.AV.int Bool.true Go.IntKind.i64
      (Go.Sx.bitsV Go.BinOp.andNot Go.IntKind.u64 (↑n : Int) (9223372036854775808 : Int)),
    Go.Sx.AV.bool Bool.true]) (call0 24 [.raw true n] (Go.Sx.G.on [false, false])) := by
  have e : Go.Sx.pureP (Go.Sx.AV.tup
  [Go.Sx.AV.int Bool.true Go.IntKind.i64
      (Go.Sx.bitsV Go.BinOp.andNot Go.IntKind.u64 (↑n : Int) (9223372036854775808 : Int)),
    Go.Sx.AV.bool Bool.true]) (call0 24 [.raw true n] (Go.Sx.G.on [false, false])) = ((Go.Sx.AV.tup
  [Go.Sx.AV.int Bool.true Go.IntKind.i64
      (Go.Sx.bitsV Go.BinOp.andNot Go.IntKind.u64 (↑n : Int) (9223372036854775808 : Int)),
    Go.Sx.AV.bool Bool.true]) = (Go.Sx.AV.tup
  [Go.Sx.AV.int Bool.true Go.IntKind.i64
      (Go.Sx.bitsV Go.BinOp.andNot Go.IntKind.u64 (↑n : Int) (9223372036854775808 : Int)),
    Go.Sx.AV.bool Bool.true]) ∧ ((((True ∧ ((!Go.Sx.feq (Go.Sx.cn n) (Go.Sx.cn n)) = Bool.false)) ∧ (((-9223372036854775808 : Int) ≤ Go.Sx.bitsV Go.BinOp.andNot Go.IntKind.u64 (↑n : Int) (9223372036854775808 : Int)) ∧ (Go.Sx.bitsV Go.BinOp.andNot Go.IntKind.u64 (↑n : Int) (9223372036854775808 : Int) ≤ (9223372036854775807 : Int)))) ∧ ((0 : Int) ≤ (63 : Int))) ∧ (Decidable.decide
    (Int.fdiv (↑n : Int) ((2 : Int) ^ Min.min (Int.toNat (63 : Int)) (Go.IntKind.bits Go.IntKind.u64)) = (1 : Int)) =
  Bool.false))) := by kernel_rfl
  exact ⟨by rw [e]; exact ⟨rfl, ⟨⟨⟨⟨trivial, c0⟩, ⟨c1, c2⟩⟩, c3⟩, c4⟩⟩⟩
theorem rplace_0 (n : Nat) (c0 : (0 : Int) ≤ Go.Sx.bitsV Go.BinOp.andNot Go.IntKind.u64 (↑n : Int) (9223372036854775808 : Int)) (c1 : Go.Sx.bitsV Go.BinOp.andNot Go.IntKind.u64 (↑n : Int) (9223372036854775808 : Int) < (18446744073709551616 : Int)) (c2 : (-9223372036854775808 : Int) ≤
  (↑(Int.toNat (Go.Sx.bitsV Go.BinOp.andNot Go.IntKind.u64 (↑n : Int) (9223372036854775808 : Int))) : Int)) (c3 : (↑(Int.toNat (Go.Sx.bitsV Go.BinOp.andNot Go.IntKind.u64 (↑n : Int) (9223372036854775808 : Int))) : Int) ≤
  (9223372036854775807 : Int)) (c4 : Go.Sx.flt (Go.Sx.cn n) (Go.Sx.cn (0 : Nat)) = Bool.true) (c5 : (-9223372036854775808 : Int) ≤
  (0 : Int) - (↑(Int.toNat (Go.Sx.bitsV Go.BinOp.andNot Go.IntKind.u64 (↑n : Int) (9223372036854775808 : Int))) : Int)) (c6 : (0 : Int) - (↑(Int.toNat (Go.Sx.bitsV Go.BinOp.andNot Go.IntKind.u64 (↑n : Int) (9223372036854775808 : Int))) : Int) ≤
  (9223372036854775807 : Int)) : Go.Sx.PureP (Go.Sx.AV.int Bool.true Go.IntKind.i64
  ((0 : Int) - (↑(Int.toNat (Go.Sx.bitsV Go.BinOp.andNot Go.IntKind.u64 (↑n : Int) (9223372036854775808 : Int))) : Int))) (call0 66 [.raw true n] (Go.Sx.G.on [true])) := by
  have e : Go.Sx.pureP (Go.Sx.AV.int Bool.true Go.IntKind.i64
  ((0 : Int) - (↑(Int.toNat (Go.Sx.bitsV Go.BinOp.andNot Go.IntKind.u64 (↑n : Int) (9223372036854775808 : Int))) : Int))) (call0 66 [.raw true n] (Go.Sx.G.on [true])) = ((Go.Sx.AV.int Bool.true Go.IntKind.i64
  ((0 : Int) - (↑(Int.toNat (Go.Sx.bitsV Go.BinOp.andNot Go.IntKind.u64 (↑n : Int) (9223372036854775808 : Int))) : Int))) = (Go.Sx.AV.int Bool.true Go.IntKind.i64
  ((0 : Int) - (↑(Int.toNat (Go.Sx.bitsV Go.BinOp.andNot Go.IntKind.u64 (↑n : Int) (9223372036854775808 : Int))) : Int))) ∧ ((((True ∧ (((0 : Int) ≤ Go.Sx.bitsV Go.BinOp.andNot Go.IntKind.u64 (↑n : Int) (9223372036854775808 : Int)) ∧ (Go.Sx.bitsV Go.BinOp.andNot Go.IntKind.u64 (↑n : Int) (9223372036854775808 : Int) < (18446744073709551616 : Int)))) ∧ (((-9223372036854775808 : Int) ≤
  (↑(Int.toNat (Go.Sx.bitsV Go.BinOp.andNot Go.IntKind.u64 (↑n : Int) (9223372036854775808 : Int))) : Int)) ∧ ((↑(Int.toNat (Go.Sx.bitsV Go.BinOp.andNot Go.IntKind.u64 (↑n : Int) (9223372036854775808 : Int))) : Int) ≤
  (9223372036854775807 : Int)))) ∧ (Go.Sx.flt (Go.Sx.cn n) (Go.Sx.cn (0 : Nat)) = Bool.true)) ∧ (((-9223372036854775808 : Int) ≤
  (0 : Int) - (↑(Int.toNat (Go.Sx.bitsV Go.BinOp.andNot Go.IntKind.u64 (↑n : Int) (9223372036854775808 : Int))) : Int)) ∧ ((0 : Int) - (↑(Int.toNat (Go.Sx.bitsV Go.BinOp.andNot Go.IntKind.u64 (↑n : Int) (9223372036854775808 : Int))) : Int) ≤
  (9223372036854775807 : Int))))) := by kernel_rfl
  exact ⟨by rw [e]; exact ⟨rfl, ⟨⟨⟨⟨trivial, ⟨c0, c1⟩⟩, ⟨c2, c3⟩⟩, c4⟩, ⟨c5, c6⟩⟩⟩⟩
theorem rplace_1 (n : Nat) (c0 : (0 : Int) ≤ Go.Sx.bitsV Go.BinOp.andNot Go.IntKind.u64 (↑n : Int) (9223372036854775808 : Int)) (c1 : Go.Sx.bitsV Go.BinOp.andNot Go.IntKind.u64 (↑n : Int) (9223372036854775808 : Int) < (18446744073709551616 : Int)) (c2 : (-9223372036854775808 : Int) ≤
  (↑(Int.toNat (Go.Sx.bitsV Go.BinOp.andNot Go.IntKind.u64 (↑n : Int) (9223372036854775808 : Int))) : Int)) (c3 : (↑(Int.toNat (Go.Sx.bitsV Go.BinOp.andNot Go.IntKind.u64 (↑n : Int) (9223372036854775808 : Int))) : Int) ≤
  (9223372036854775807 : Int)) (c4 : Go.Sx.flt (Go.Sx.cn n) (Go.Sx.cn (0 : Nat)) = Bool.false) : Go.Sx.PureP (Go.Sx.AV.int Bool.true Go.IntKind.i64
  (↑(Int.toNat (Go.Sx.bitsV Go.BinOp.andNot Go.IntKind.u64 (↑n : Int) (9223372036854775808 : Int))) : Int)) (call0 66 [.raw true n] (Go.Sx.G.on [false])) := by
  have e : Go.Sx.pureP (Go.Sx.AV.int Bool.true Go.IntKind.i64
  (↑(Int.toNat (Go.Sx.bitsV Go.BinOp.andNot Go.IntKind.u64 (↑n : Int) (9223372036854775808 : Int))) : Int)) (call0 66 [.raw true n] (Go.Sx.G.on [false])) = ((Go.Sx.AV.int Bool.true Go.IntKind.i64
  (↑(Int.toNat (Go.Sx.bitsV Go.BinOp.andNot Go.IntKind.u64 (↑n : Int) (9223372036854775808 : Int))) : Int)) = (Go.Sx.AV.int Bool.true Go.IntKind.i64
  (↑(Int.toNat (Go.Sx.bitsV Go.BinOp.andNot Go.IntKind.u64 (↑n : Int) (9223372036854775808 : Int))) : Int)) ∧ (((True ∧ (((0 : Int) ≤ Go.Sx.bitsV Go.BinOp.andNot Go.IntKind.u64 (↑n : Int) (9223372036854775808 : Int)) ∧ (Go.Sx.bitsV Go.BinOp.andNot Go.IntKind.u64 (↑n : Int) (9223372036854775808 : Int) < (18446744073709551616 : Int)))) ∧ (((-9223372036854775808 : Int) ≤
  (↑(Int.toNat (Go.Sx.bitsV Go.BinOp.andNot Go.IntKind.u64 (↑n : Int) (9223372036854775808 : Int))) : Int)) ∧ ((↑(Int.toNat (Go.Sx.bitsV Go.BinOp.andNot Go.IntKind.u64 (↑n : Int) (9223372036854775808 : Int))) : Int) ≤
  (9223372036854775807 : Int)))) ∧ (Go.Sx.flt (Go.Sx.cn n) (Go.Sx.cn (0 : Nat)) = Bool.false))) := by kernel_rfl
  exact ⟨by rw [e]; exact ⟨rfl, ⟨⟨⟨trivial, ⟨c0, c1⟩⟩, ⟨c2, c3⟩⟩, c4⟩⟩⟩
theorem at_0 (n : Int) (c0 : Decidable.decide ((9218868437227405312 : Int) < n) = Bool.true) : Go.Sx.PureP (Go.Sx.AV.tup [Go.Sx.AV.flt Bool.false (Go.Sx.cn (0 : Nat)), Go.Sx.AV.bool Bool.false]) (call0 32 [.int true .i64 n] (Go.Sx.G.on [true])) := by
  have e : Go.Sx.pureP (Go.Sx.AV.tup [Go.Sx.AV.flt Bool.false (Go.Sx.cn (0 : Nat)), Go.Sx.AV.bool Bool.false]) (call0 32 [.int true .i64 n] (Go.Sx.G.on [true])) = ((Go.Sx.AV.tup [Go.Sx.AV.flt Bool.false (Go.Sx.cn (0 : Nat)), Go.Sx.AV.bool Bool.false]) = (Go.Sx.AV.tup [Go.Sx.AV.flt Bool.false (Go.Sx.cn (0 : Nat)), Go.Sx.AV.bool Bool.false]) ∧ (True ∧ (Decidable.decide ((9218868437227405312 : Int) < n) = Bool.true))) := by kernel_rfl
  exact ⟨by rw [e]; exact ⟨rfl, ⟨trivial, c0⟩⟩⟩
theorem at_1 (n : Int) (c0 : Decidable.decide ((9218868437227405312 : Int) < n) = Bool.false) (c1 : Decidable.decide (n < (-9218868437227405312 : Int)) = Bool.true) : Go.Sx.PureP (Go.Sx.AV.tup [Go.Sx.AV.flt Bool.false (Go.Sx.cn (0 : Nat)), Go.Sx.AV.bool Bool.false]) (call0 32 [.int true .i64 n] (Go.Sx.G.on [false, true])) := by
  have e : Go.Sx.pureP (Go.Sx.AV.tup [Go.Sx.AV.flt Bool.false (Go.Sx.cn (0 : Nat)), Go.Sx.AV.bool Bool.false]) (call0 32 [.int true .i64 n] (Go.Sx.G.on [false, true])) = ((Go.Sx.AV.tup [Go.Sx.AV.flt Bool.false (Go.Sx.cn (0 : Nat)), Go.Sx.AV.bool Bool.false]) = (Go.Sx.AV.tup [Go.Sx.AV.flt Bool.false (Go.Sx.cn (0 : Nat)), Go.Sx.AV.bool Bool.false]) ∧ ((True ∧ (Decidable.decide ((9218868437227405312 : Int) < n) = Bool.false)) ∧ (Decidable.decide (n < (-9218868437227405312 : Int)) = Bool.true))) := by kernel_rfl
  exact ⟨by rw [e]; exact ⟨rfl, ⟨⟨trivial, c0⟩, c1⟩⟩⟩
theorem at_2 (n : Int) (c0 : Decidable.decide ((9218868437227405312 : Int) < n) = Bool.false) (c1 : Decidable.decide (n < (-9218868437227405312 : Int)) = Bool.false) (c2 : Decidable.decide (n < (0 : Int)) = Bool.true) (c3 : (-9223372036854775808 : Int) ≤ (0 : Int) - n) (c4 : (0 : Int) - n ≤ (9223372036854775807 : Int)) (c5 : (0 : Int) ≤
  Go.Sx.bitsV Go.BinOp.or Go.IntKind.u64 (Go.IntKind.wrap Go.IntKind.u64 ((0 : Int) - n)) (9223372036854775808 : Int)) (c6 : Go.Sx.bitsV Go.BinOp.or Go.IntKind.u64 (Go.IntKind.wrap Go.IntKind.u64 ((0 : Int) - n)) (9223372036854775808 : Int) <
  (18446744073709551616 : Int)) : Go.Sx.PureP (Go.Sx.AV.tup
  [Go.Sx.AV.raw Bool.true
      (Int.toNat
        (Go.Sx.bitsV Go.BinOp.or Go.IntKind.u64 (Go.IntKind.wrap Go.IntKind.u64 ((0 : Int) - n))
          (9223372036854775808 : Int))),
    Go.Sx.AV.bool Bool.true]) (call0 32 [.int true .i64 n] (Go.Sx.G.on [false, false, true])) := by
  have e : Go.Sx.pureP (Go.Sx.AV.tup
  [Go.Sx.AV.raw Bool.true
      (Int.toNat
        (Go.Sx.bitsV Go.BinOp.or Go.IntKind.u64 (Go.IntKind.wrap Go.IntKind.u64 ((0 : Int) - n))
          (9223372036854775808 : Int))),
    Go.Sx.AV.bool Bool.true]) (call0 32 [.int true .i64 n] (Go.Sx.G.on [false, false, true])) = ((Go.Sx.AV.tup
  [Go.Sx.AV.raw Bool.true
      (Int.toNat
        (Go.Sx.bitsV Go.BinOp.or Go.IntKind.u64 (Go.IntKind.wrap Go.IntKind.u64 ((0 : Int) - n))
          (9223372036854775808 : Int))),
    Go.Sx.AV.bool Bool.true]) = (Go.Sx.AV.tup
  [Go.Sx.AV.raw Bool.true
      (Int.toNat
        (Go.Sx.bitsV Go.BinOp.or Go.IntKind.u64 (Go.IntKind.wrap Go.IntKind.u64 ((0 : Int) - n))
          (9223372036854775808 : Int))),
    Go.Sx.AV.bool Bool.true]) ∧ (((((True ∧ (Decidable.decide ((9218868437227405312 : Int) < n) = Bool.false)) ∧ (Decidable.decide (n < (-9218868437227405312 : Int)) = Bool.false)) ∧ (Decidable.decide (n < (0 : Int)) = Bool.true)) ∧ (((-9223372036854775808 : Int) ≤ (0 : Int) - n) ∧ ((0 : Int) - n ≤ (9223372036854775807 : Int)))) ∧ (((0 : Int) ≤
  Go.Sx.bitsV Go.BinOp.or Go.IntKind.u64 (Go.IntKind.wrap Go.IntKind.u64 ((0 : Int) - n)) (9223372036854775808 : Int)) ∧ (Go.Sx.bitsV Go.BinOp.or Go.IntKind.u64 (Go.IntKind.wrap Go.IntKind.u64 ((0 : Int) - n)) (9223372036854775808 : Int) <
  (18446744073709551616 : Int))))) := by kernel_rfl
  exact ⟨by rw [e]; exact ⟨rfl, ⟨⟨⟨⟨⟨trivial, c0⟩, c1⟩, c2⟩, ⟨c3, c4⟩⟩, ⟨c5, c6⟩⟩⟩⟩
theorem at_3 (n : Int) (c0 : Decidable.decide ((9218868437227405312 : Int) < n) = Bool.false) (c1 : Decidable.decide (n < (-9218868437227405312 : Int)) = Bool.false) (c2 : Decidable.decide (n < (0 : Int)) = Bool.false) (c3 : (0 : Int) ≤ Go.IntKind.wrap Go.IntKind.u64 n) (c4 : Go.IntKind.wrap Go.IntKind.u64 n < (18446744073709551616 : Int)) : Go.Sx.PureP (Go.Sx.AV.tup [Go.Sx.AV.raw Bool.true (Int.toNat (Go.IntKind.wrap Go.IntKind.u64 n)), Go.Sx.AV.bool Bool.true]) (call0 32 [.int true .i64 n] (Go.Sx.G.on [false, false, false])) := by
  have e : Go.Sx.pureP (Go.Sx.AV.tup [Go.Sx.AV.raw Bool.true (Int.toNat (Go.IntKind.wrap Go.IntKind.u64 n)), Go.Sx.AV.bool Bool.true]) (call0 32 [.int true .i64 n] (Go.Sx.G.on [false, false, false])) = ((Go.Sx.AV.tup [Go.Sx.AV.raw Bool.true (Int.toNat (Go.IntKind.wrap Go.IntKind.u64 n)), Go.Sx.AV.bool Bool.true]) = (Go.Sx.AV.tup [Go.Sx.AV.raw Bool.true (Int.toNat (Go.IntKind.wrap Go.IntKind.u64 n)), Go.Sx.AV.bool Bool.true]) ∧ ((((True ∧ (Decidable.decide ((9218868437227405312 : Int) < n) = Bool.false)) ∧ (Decidable.decide (n < (-9218868437227405312 : Int)) = Bool.false)) ∧ (Decidable.decide (n < (0 : Int)) = Bool.false)) ∧ (((0 : Int) ≤ Go.IntKind.wrap Go.IntKind.u64 n) ∧ (Go.IntKind.wrap Go.IntKind.u64 n < (18446744073709551616 : Int))))) := by kernel_rfl
  exact ⟨by rw [e]; exact ⟨rfl, ⟨⟨⟨⟨trivial, c0⟩, c1⟩, c2⟩, ⟨c3, c4⟩⟩⟩⟩
theorem rat_0 (n : Int) (c0 : Decidable.decide (n < (0 : Int)) = Bool.true) (c1 : (-9223372036854775808 : Int) ≤ (0 : Int) - n) (c2 : (0 : Int) - n ≤ (9223372036854775807 : Int)) (c3 : (0 : Int) ≤ Go.IntKind.wrap Go.IntKind.u64 ((0 : Int) - n)) (c4 : Go.IntKind.wrap Go.IntKind.u64 ((0 : Int) - n) < (18446744073709551616 : Int)) : Go.Sx.PureP (Go.Sx.AV.flt Bool.true (Go.Sx.fneg (Go.Sx.cn (Int.toNat (Go.IntKind.wrap Go.IntKind.u64 ((0 : Int) - n)))))) (call0 67 [.int true .i64 n] (Go.Sx.G.on [true])) := by
  have e : Go.Sx.pureP (Go.Sx.AV.flt Bool.true (Go.Sx.fneg (Go.Sx.cn (Int.toNat (Go.IntKind.wrap Go.IntKind.u64 ((0 : Int) - n)))))) (call0 67 [.int true .i64 n] (Go.Sx.G.on [true])) = ((Go.Sx.AV.flt Bool.true (Go.Sx.fneg (Go.Sx.cn (Int.toNat (Go.IntKind.wrap Go.IntKind.u64 ((0 : Int) - n)))))) = (Go.Sx.AV.flt Bool.true (Go.Sx.fneg (Go.Sx.cn (Int.toNat (Go.IntKind.wrap Go.IntKind.u64 ((0 : Int) - n)))))) ∧ (((True ∧ (Decidable.decide (n < (0 : Int)) = Bool.true)) ∧ (((-9223372036854775808 : Int) ≤ (0 : Int) - n) ∧ ((0 : Int) - n ≤ (9223372036854775807 : Int)))) ∧ (((0 : Int) ≤ Go.IntKind.wrap Go.IntKind.u64 ((0 : Int) - n)) ∧ (Go.IntKind.wrap Go.IntKind.u64 ((0 : Int) - n) < (18446744073709551616 : Int))))) := by kernel_rfl
  exact ⟨by rw [e]; exact ⟨rfl, ⟨⟨⟨trivial, c0⟩, ⟨c1, c2⟩⟩, ⟨c3, c4⟩⟩⟩⟩
theorem rat_1 (n : Int) (c0 : Decidable.decide (n < (0 : Int)) = Bool.false) (c1 : (0 : Int) ≤ Go.IntKind.wrap Go.IntKind.u64 n) (c2 : Go.IntKind.wrap Go.IntKind.u64 n < (18446744073709551616 : Int)) : Go.Sx.PureP (Go.Sx.AV.raw Bool.true (Int.toNat (Go.IntKind.wrap Go.IntKind.u64 n))) (call0 67 [.int true .i64 n] (Go.Sx.G.on [false])) := by
  have e : Go.Sx.pureP (Go.Sx.AV.raw Bool.true (Int.toNat (Go.IntKind.wrap Go.IntKind.u64 n))) (call0 67 [.int true .i64 n] (Go.Sx.G.on [false])) = ((Go.Sx.AV.raw Bool.true (Int.toNat (Go.IntKind.wrap Go.IntKind.u64 n))) = (Go.Sx.AV.raw Bool.true (Int.toNat (Go.IntKind.wrap Go.IntKind.u64 n))) ∧ ((True ∧ (Decidable.decide (n < (0 : Int)) = Bool.false)) ∧ (((0 : Int) ≤ Go.IntKind.wrap Go.IntKind.u64 n) ∧ (Go.IntKind.wrap Go.IntKind.u64 n < (18446744073709551616 : Int))))) := by kernel_rfl
  exact ⟨by rw [e]; exact ⟨rfl, ⟨⟨trivial, c0⟩, ⟨c1, c2⟩⟩⟩⟩
theorem same_0 (n m : Nat) (c0 : Decidable.decide ((↑n : Int) = (↑m : Int)) = Bool.true) : Go.Sx.PureP (Go.Sx.AV.bool Bool.true) (call0 13 [.raw true n, .raw true m] (Go.Sx.G.on [true])) := by
  have e : Go.Sx.pureP (Go.Sx.AV.bool Bool.true) (call0 13 [.raw true n, .raw true m] (Go.Sx.G.on [true])) = ((Go.Sx.AV.bool Bool.true) = (Go.Sx.AV.bool Bool.true) ∧ (True ∧ (Decidable.decide ((↑n : Int) = (↑m : Int)) = Bool.true))) := by kernel_rfl
  exact ⟨by rw [e]; exact ⟨rfl, ⟨trivial, c0⟩⟩⟩
theorem same_1 (n m : Nat) (c0 : Decidable.decide ((↑n : Int) = (↑m : Int)) = Bool.false) (c1 : (!Go.Sx.feq (Go.Sx.cn n) (Go.Sx.cn n)) = Bool.true) : Go.Sx.PureP (Go.Sx.AV.sbool !Go.Sx.feq (Go.Sx.cn m) (Go.Sx.cn m)) (call0 13 [.raw true n, .raw true m] (Go.Sx.G.on [false, true])) := by
  have e : Go.Sx.pureP (Go.Sx.AV.sbool !Go.Sx.feq (Go.Sx.cn m) (Go.Sx.cn m)) (call0 13 [.raw true n, .raw true m] (Go.Sx.G.on [false, true])) = ((Go.Sx.AV.sbool !Go.Sx.feq (Go.Sx.cn m) (Go.Sx.cn m)) = (Go.Sx.AV.sbool !Go.Sx.feq (Go.Sx.cn m) (Go.Sx.cn m)) ∧ ((True ∧ (Decidable.decide ((↑n : Int) = (↑m : Int)) = Bool.false)) ∧ ((!Go.Sx.feq (Go.Sx.cn n) (Go.Sx.cn n)) = Bool.true))) := by kernel_rfl
  exact ⟨by rw [e]; exact ⟨rfl, ⟨⟨trivial, c0⟩, c1⟩⟩⟩
theorem same_2 (n m : Nat) (c0 : Decidable.decide ((↑n : Int) = (↑m : Int)) = Bool.false) (c1 : (!Go.Sx.feq (Go.Sx.cn n) (Go.Sx.cn n)) = Bool.false) : Go.Sx.PureP (Go.Sx.AV.bool Bool.false) (call0 13 [.raw true n, .raw true m] (Go.Sx.G.on [false, false])) := by
  have e : Go.Sx.pureP (Go.Sx.AV.bool Bool.false) (call0 13 [.raw true n, .raw true m] (Go.Sx.G.on [false, false])) = ((Go.Sx.AV.bool Bool.false) = (Go.Sx.AV.bool Bool.false) ∧ ((True ∧ (Decidable.decide ((↑n : Int) = (↑m : Int)) = Bool.false)) ∧ ((!Go.Sx.feq (Go.Sx.cn n) (Go.Sx.cn n)) = Bool.false))) := by kernel_rfl
  exact ⟨by rw [e]; exact ⟨rfl, ⟨⟨trivial, c0⟩, c1⟩⟩⟩
theorem finD_cn {n : Nat} (h : n < 18446744073709551616) : Sx.finD (Sx.cn n) = Sx.finD n := by
  cases hn : Sx.isnan n with
  | false => rw [Sx.cn_of_not hn]
  | true =>
    rw [Sx.cn_of_nan hn]
    have : 9218868437227405312 < n % 9223372036854775808 := by simpa [Sx.isnan] using hn
    have e : Sx.finD n = false := decide_eq_false (by omega)
    rw [e]; decide
/-- the float that a raw or a plain one is -/
theorem one_flt {N : Nat} {μ : Sx.MM} {s : Bool} {x : Nat} {cargs : Array Value} (h : Sx.Reps N μ [.flt s x] cargs.toList) : ∃ b, cargs = #[.float .f64 b] ∧ Sx.cn b = x ∧ b < 18446744073709551616 := by
  obtain ⟨c, rfl, hx⟩ := h.one
  simp only [Sx.Rep] at hx
  obtain ⟨b, rfl, h1, h2⟩ := hx
  exact ⟨b, rfl, h1, h2⟩
theorem one_raw {N : Nat} {μ : Sx.MM} {s : Bool} {x : Nat} {cargs : Array Value} (h : Sx.Reps N μ [.raw s x] cargs.toList) : cargs = #[.float .f64 x] ∧ x < 18446744073709551616 := by
  obtain ⟨c, rfl, hx⟩ := h.one
  simp only [Sx.Rep] at hx
  obtain ⟨rfl, h2⟩ := hx
  exact ⟨rfl, h2⟩
theorem raw1 {x : Nat} (h : x < 18446744073709551616) : Sx.Reps 0 Sx.MM.none [.raw true x] (#[Value.float .f64 x] : Array Value).toList := by
  simp only [Sx.Reps, Sx.Rep]; exact ⟨_, _, rfl, ⟨rfl, h⟩, rfl⟩
/-- finite? -/
noncomputable def finS : List Sx.AV → Sx.M Sx.AV
  | [.raw s n] => Sx.M.ret (Sx.cmpB s (Sx.finD n))
  | [.flt s n] => Sx.M.ret (Sx.cmpB s (Sx.finD n))
  | _ => Sx.M.no
theorem finS_tch : ∀ args, Sx.Tch (finS args) := by
  intro args; unfold finS; split
  · exact Sx.Tch.ret _
  · exact Sx.Tch.ret _
  · exact Sx.Tch.no
theorem fin_road (n : Nat) (h : n < 18446744073709551616) : ∃ path lv, Sx.PureP lv (call0 43 [.raw true n] (Sx.G.on path)) ∧ lv.low 0 = true ∧ ∀ c, (∀ N μ, Sx.Rep N μ lv c) → c = .bool (Sx.finD n) := by
  have e := Sx.andNot63 h
  have hm : n % 9223372036854775808 < 18446744073709551616 := by omega
  have key : Sx.fgt (Sx.cn (Int.toNat (Sx.bitsV .andNot .u64 (n : Int) 9223372036854775808))) (Sx.cn 9218868437227405311) = (!Sx.isnan n && !Sx.finD n) := by
    rw [e]; exact Sx.fin_gt h
  have b0 : 0 ≤ Sx.bitsV .andNot .u64 (n : Int) 9223372036854775808 := by rw [e]; omega
  have b1 : Sx.bitsV .andNot .u64 (n : Int) 9223372036854775808 < 18446744073709551616 := by rw [e]; omega
  cases hf : Sx.finD n with
  | true =>
    have hn := Sx.finD_notnan hf
    refine ⟨_, _, fin_0 n b0 b1 (by rw [key, hf, hn]; rfl), rfl, fun c hc => ?_⟩
    have := hc 0 Sx.MM.none
    simp only [Sx.Rep] at this
    rw [this, Sx.feq_self h, hn]; rfl
  | false =>
    cases hn : Sx.isnan n with
    | true =>
      refine ⟨_, _, fin_0 n b0 b1 (by rw [key, hf, hn]; rfl), rfl, fun c hc => ?_⟩
      have := hc 0 Sx.MM.none
      simp only [Sx.Rep] at this
      rw [this, Sx.feq_self h, hn]; rfl
    | false =>
      refine ⟨_, _, fin_1 n b0 b1 (by rw [key, hf, hn]; rfl), rfl, fun c hc => ?_⟩
      have := hc 0 Sx.MM.none
      simpa only [Sx.Rep] using this
theorem rfin_road (n : Nat) (h : n < 18446744073709551616) : ∃ path lv, Sx.PureP lv (call0 46 [.raw true n] (Sx.G.on path)) ∧ lv.low 0 = true ∧ ∀ c, (∀ N μ, Sx.Rep N μ lv c) → c = .bool (Sx.finD n) := by
  refine ⟨_, _, rfin_0 n, rfl, fun c hc => ?_⟩
  have := hc 0 Sx.MM.none
  simp only [Sx.Rep] at this
  rw [this, Sx.fin_sub h]
theorem finS_of {f : Nat} (road : ∀ n, n < 18446744073709551616 → ∃ path lv, Sx.PureP lv (call0 f [.raw true n] (Sx.G.on path)) ∧ lv.low 0 = true ∧ ∀ c, (∀ N μ, Sx.Rep N μ lv c) → c = .bool (Sx.finD n)) :
    ∀ args v g g', finS args g = .done v g' → Sx.CallIs Try.prog f args v g g' := by
  intro args v g g' h
  unfold finS at h
  split at h
  · rename_i s n
    obtain ⟨rfl, rfl⟩ := Sx.ret_done h
    refine Sx.scal sound0 fun μ cargs ha => ?_
    obtain ⟨rfl, hn⟩ := one_raw ha
    obtain ⟨path, lv, h1, h2, h3⟩ := road n hn
    exact ⟨[.raw true n], path, lv, raw1 hn, h1, h2, fun c hc => Sx.Rep_cmpB.2 (h3 c hc)⟩
  · rename_i s n
    obtain ⟨rfl, rfl⟩ := Sx.ret_done h
    refine Sx.scal sound0 fun μ cargs ha => ?_
    obtain ⟨b, rfl, rfl, hb⟩ := one_flt ha
    obtain ⟨path, lv, h1, h2, h3⟩ := road b hb
    exact ⟨[.raw true b], path, lv, raw1 hb, h1, h2, fun c hc => Sx.Rep_cmpB.2 (by rw [finD_cn hb]; exact h3 c hc)⟩
  · exact (Sx.no_done h).elim
theorem fin43_ok : ∀ args v g g', finS args g = .done v g' → Sx.CallIs Try.prog 43 args v g g' := finS_of fin_road
theorem fin46_ok : ∀ args v g g', finS args g = .done v g' → Sx.CallIs Try.prog 46 args v g g' := finS_of rfin_road
/-- real.Place: of no NaN -/
noncomputable def placeS : List Sx.AV → Sx.M Sx.AV
  | [.raw s n] => (Sx.M.ck s (Sx.isnan n = false)).andThen fun _ => Sx.M.ret (.tup [.int s .i64 (Sx.rk n), .bool true])
  | [.flt s n] => (Sx.M.ck s (Sx.isnan n = false)).andThen fun _ => Sx.M.ret (.tup [.int s .i64 (Sx.rk n), .bool true])
  | _ => Sx.M.no
theorem placeS_tch : ∀ args, Sx.Tch (placeS args) := by
  intro args; unfold placeS; split
  · exact (Sx.Tch.ck _ _).andThen fun _ => Sx.Tch.ret _
  · exact (Sx.Tch.ck _ _).andThen fun _ => Sx.Tch.ret _
  · exact Sx.Tch.no
theorem rk_neg {n : Nat} (h : n < 18446744073709551616) : (0 : Int) - ((n % 9223372036854775808 : Nat) : Int) = Sx.rk n ∨ ¬ 9223372036854775808 ≤ n := by
  unfold Sx.rk
  by_cases h1 : 9223372036854775808 ≤ n
  · left; rw [if_pos h1]; omega
  · exact .inr h1
theorem place_road (n : Nat) (h : n < 18446744073709551616) (hn : Sx.isnan n = false) : ∃ path lv, Sx.PureP lv (call0 24 [.raw true n] (Sx.G.on path)) ∧ lv.low 0 = true ∧ ∀ c, (∀ N μ, Sx.Rep N μ lv c) → ∀ N μ s, Sx.Rep N μ (.tup [.int s .i64 (Sx.rk n), .bool true]) c := by
  have e := Sx.andNot63 h
  have hm : n % 9223372036854775808 < 9223372036854775808 := by omega
  have c0 : (!Sx.feq (Sx.cn n) (Sx.cn n)) = false := by rw [Sx.feq_self h, hn]; rfl
  have sh := Sx.shr63 h
  by_cases h1 : 9223372036854775808 ≤ n
  · refine ⟨_, _, place_1 n c0 (by rw [e]; omega) (by rw [e]; omega) (by decide) (by rw [sh]; exact decide_eq_true h1) (by rw [e]; omega) (by rw [e]; omega), rfl, fun c hc N μ s => ?_⟩
    have := hc N μ
    rw [e, (rk_neg h).resolve_right (fun h => h h1)] at this
    exact this
  · refine ⟨_, _, place_2 n c0 (by rw [e]; omega) (by rw [e]; omega) (by decide) (by rw [sh]; exact decide_eq_false h1), rfl, fun c hc N μ s => ?_⟩
    have := hc N μ
    have e2 : ((n % 9223372036854775808 : Nat) : Int) = Sx.rk n := by unfold Sx.rk; rw [if_neg h1]; omega
    rw [e, e2] at this
    exact this
theorem place24_ok : ∀ args v g g', placeS args g = .done v g' → Sx.CallIs Try.prog 24 args v g g' := by
  intro args v g g' h
  unfold placeS at h
  split at h
  · rename_i s n
    obtain ⟨_, g1, a1, h1⟩ := Sx.done_of h
    obtain ⟨rfl, rfl⟩ := Sx.ret_done h1
    refine Sx.scalK sound0 (Sx.ck_done a1) fun hp μ cargs ha => ?_
    obtain ⟨rfl, hn⟩ := one_raw ha
    obtain ⟨path, lv, h1, h2, h3⟩ := place_road n hn hp
    exact ⟨[.raw true n], path, lv, raw1 hn, h1, h2, fun c hc => h3 c hc _ _ _⟩
  · rename_i s n
    obtain ⟨_, g1, a1, h1⟩ := Sx.done_of h
    obtain ⟨rfl, rfl⟩ := Sx.ret_done h1
    refine Sx.scalK sound0 (Sx.ck_done a1) fun hp μ cargs ha => ?_
    obtain ⟨b, rfl, rfl, hb⟩ := one_flt ha
    rw [Sx.isnan_cn] at hp
    obtain ⟨path, lv, h1, h2, h3⟩ := place_road b hb hp
    exact ⟨[.raw true b], path, lv, raw1 hb, h1, h2, fun c hc => by rw [Sx.cn_of_not hp]; exact h3 c hc _ _ _⟩
  · exact (Sx.no_done h).elim
/-- the document's place -/
noncomputable def rplaceS : List Sx.AV → Sx.M Sx.AV
  | [.raw s n] => (Sx.M.ck s (Sx.isnan n = false)).andThen fun _ => Sx.M.ret (.int s .i64 (Sx.rk n))
  | [.flt s n] => (Sx.M.ck s (Sx.isnan n = false)).andThen fun _ => Sx.M.ret (.int s .i64 (Sx.rk n))
  | _ => Sx.M.no
theorem rplaceS_tch : ∀ args, Sx.Tch (rplaceS args) := by
  intro args; unfold rplaceS; split
  · exact (Sx.Tch.ck _ _).andThen fun _ => Sx.Tch.ret _
  · exact (Sx.Tch.ck _ _).andThen fun _ => Sx.Tch.ret _
  · exact Sx.Tch.no
theorem rplace_road (n : Nat) (h : n < 18446744073709551616) (hn : Sx.isnan n = false) : ∃ path lv, Sx.PureP lv (call0 66 [.raw true n] (Sx.G.on path)) ∧ lv.low 0 = true ∧ ∀ c, (∀ N μ, Sx.Rep N μ lv c) → ∀ N μ s, Sx.Rep N μ (.int s .i64 (Sx.rk n)) c := by
  have e := Sx.andNot63 h
  have hm : n % 9223372036854775808 < 9223372036854775808 := by omega
  have fz := Sx.flt_zero h hn
  have e1 : ((Int.toNat (Sx.bitsV .andNot .u64 (n : Int) 9223372036854775808) : Nat) : Int) = ((n % 9223372036854775808 : Nat) : Int) := by rw [e]; omega
  by_cases h1 : Sx.rk n < 0
  · have h2 : 9223372036854775808 ≤ n := by
      unfold Sx.rk at h1; split at h1 <;> omega
    refine ⟨_, _, rplace_0 n (by rw [e]; omega) (by rw [e]; omega) (by rw [e1]; omega) (by rw [e1]; omega) (by rw [fz]; exact decide_eq_true h1) (by rw [e1]; omega) (by rw [e1]; omega), rfl, fun c hc N μ s => ?_⟩
    have := hc N μ
    rw [e1, (rk_neg h).resolve_right (fun h => h h2)] at this
    exact this
  · refine ⟨_, _, rplace_1 n (by rw [e]; omega) (by rw [e]; omega) (by rw [e1]; omega) (by rw [e1]; omega) (by rw [fz]; exact decide_eq_false h1), rfl, fun c hc N μ s => ?_⟩
    have := hc N μ
    have e2 : ((n % 9223372036854775808 : Nat) : Int) = Sx.rk n := by unfold Sx.rk at h1 ⊢; split at h1 <;> split <;> omega
    rw [e1, e2] at this
    exact this
theorem rplace66_ok : ∀ args v g g', rplaceS args g = .done v g' → Sx.CallIs Try.prog 66 args v g g' := by
  intro args v g g' h
  unfold rplaceS at h
  split at h
  · rename_i s n
    obtain ⟨_, g1, a1, h1⟩ := Sx.done_of h
    obtain ⟨rfl, rfl⟩ := Sx.ret_done h1
    refine Sx.scalK sound0 (Sx.ck_done a1) fun hp μ cargs ha => ?_
    obtain ⟨rfl, hn⟩ := one_raw ha
    obtain ⟨path, lv, h1, h2, h3⟩ := rplace_road n hn hp
    exact ⟨[.raw true n], path, lv, raw1 hn, h1, h2, fun c hc => h3 c hc _ _ _⟩
  · rename_i s n
    obtain ⟨_, g1, a1, h1⟩ := Sx.done_of h
    obtain ⟨rfl, rfl⟩ := Sx.ret_done h1
    refine Sx.scalK sound0 (Sx.ck_done a1) fun hp μ cargs ha => ?_
    obtain ⟨b, rfl, rfl, hb⟩ := one_flt ha
    rw [Sx.isnan_cn] at hp
    obtain ⟨path, lv, h1, h2, h3⟩ := rplace_road b hb hp
    exact ⟨[.raw true b], path, lv, raw1 hb, h1, h2, fun c hc => by rw [Sx.cn_of_not hp]; exact h3 c hc _ _ _⟩
  · exact (Sx.no_done h).elim
/-- the float at a place, plus infinity's at the most -/
noncomputable def atS : List Sx.AV → Sx.M Sx.AV
  | [.int s .i64 p] => (Sx.M.ck s (-9218868437227405312 ≤ p ∧ p ≤ 9218868437227405312)).andThen fun _ => Sx.M.ret (.tup [.raw s (Sx.wd p), .bool true])
  | _ => Sx.M.no
theorem atS_tch : ∀ args, Sx.Tch (atS args) := by
  intro args; unfold atS; split
  · exact (Sx.Tch.ck _ _).andThen fun _ => Sx.Tch.ret _
  · exact Sx.Tch.no
theorem one_int {N : Nat} {μ : Sx.MM} {s : Bool} {k : IntKind} {x : Int} {cargs : Array Value} (h : Sx.Reps N μ [.int s k x] cargs.toList) : cargs = #[.int k x] := by
  obtain ⟨c, rfl, hx⟩ := h.one
  simp only [Sx.Rep] at hx
  rw [hx]
theorem int1 {k : IntKind} {x : Int} : Sx.Reps 0 Sx.MM.none [.int true k x] (#[Value.int k x] : Array Value).toList := by
  simp only [Sx.Reps, Sx.Rep]; exact ⟨_, _, rfl, rfl, rfl⟩
theorem at_road (p : Int) (h : -9218868437227405312 ≤ p) (h2 : p ≤ 9218868437227405312) : ∃ path lv, Sx.PureP lv (call0 32 [.int true .i64 p] (Sx.G.on path)) ∧ lv.low 0 = true ∧ ∀ c, (∀ N μ, Sx.Rep N μ lv c) → ∀ N μ s, Sx.Rep N μ (.tup [.raw s (Sx.wd p), .bool true]) c := by
  have c0 : decide (9218868437227405312 < p) = false := decide_eq_false (by omega)
  have c1 : decide (p < -9218868437227405312) = false := decide_eq_false (by omega)
  by_cases hp : p < 0
  · have w : IntKind.u64.wrap (0 - p) = 0 - p := by
      obtain ⟨m, hm⟩ := Int.eq_ofNat_of_zero_le (show 0 ≤ 0 - p by omega)
      rw [hm]; exact Sx.wrap_u64 (by omega)
    have o : Sx.bitsV .or .u64 (IntKind.u64.wrap (0 - p)) 9223372036854775808 = 9223372036854775808 + (0 - p) := by
      rw [w]; exact Sx.or63 (by omega) (by omega)
    refine ⟨_, _, at_2 p c0 c1 (decide_eq_true hp) (by omega) (by omega) (by rw [o]; omega) (by rw [o]; omega), rfl, fun c hc N μ s => ?_⟩
    have := hc N μ
    have e : (Sx.bitsV .or .u64 (IntKind.u64.wrap (0 - p)) 9223372036854775808).toNat = Sx.wd p := by
      rw [o]; unfold Sx.wd; rw [if_pos hp]; omega
    rw [e] at this
    exact this
  · have w : IntKind.u64.wrap p = p := by
      obtain ⟨m, hm⟩ := Int.eq_ofNat_of_zero_le (show 0 ≤ p by omega)
      rw [hm]; exact Sx.wrap_u64 (by omega)
    refine ⟨_, _, at_3 p c0 c1 (decide_eq_false hp) (by rw [w]; omega) (by rw [w]; omega), rfl, fun c hc N μ s => ?_⟩
    have := hc N μ
    have e : (IntKind.u64.wrap p).toNat = Sx.wd p := by rw [w]; unfold Sx.wd; rw [if_neg hp]
    rw [e] at this
    exact this
theorem at32_ok : ∀ args v g g', atS args g = .done v g' → Sx.CallIs Try.prog 32 args v g g' := by
  intro args v g g' h
  unfold atS at h
  split at h
  · rename_i s p
    obtain ⟨_, g1, a1, h1⟩ := Sx.done_of h
    obtain ⟨rfl, rfl⟩ := Sx.ret_done h1
    refine Sx.scalK sound0 (Sx.ck_done a1) fun hp μ cargs ha => ?_
    obtain rfl := one_int ha
    obtain ⟨path, lv, h1, h2, h3⟩ := at_road p hp.1 hp.2
    exact ⟨[.int true .i64 p], path, lv, int1, h1, h2, fun c hc => h3 c hc _ _ _⟩
  · exact (Sx.no_done h).elim
/-- the document's float at a place -/
noncomputable def ratS : List Sx.AV → Sx.M Sx.AV
  | [.int s .i64 p] => (Sx.M.ck s (-9218868437227405312 ≤ p ∧ p ≤ 9218868437227405312)).andThen fun _ => Sx.M.ret (.flt s (Sx.cn (Sx.wd p)))
  | _ => Sx.M.no
theorem ratS_tch : ∀ args, Sx.Tch (ratS args) := by
  intro args; unfold ratS; split
  · exact (Sx.Tch.ck _ _).andThen fun _ => Sx.Tch.ret _
  · exact Sx.Tch.no
theorem rat_road (p : Int) (h : -9218868437227405312 ≤ p) (h2 : p ≤ 9218868437227405312) : ∃ path lv, Sx.PureP lv (call0 67 [.int true .i64 p] (Sx.G.on path)) ∧ lv.low 0 = true ∧ ∀ c, (∀ N μ, Sx.Rep N μ lv c) → ∀ N μ s, Sx.Rep N μ (.flt s (Sx.cn (Sx.wd p))) c := by
  by_cases hp : p < 0
  · have w : IntKind.u64.wrap (0 - p) = 0 - p := by
      obtain ⟨m, hm⟩ := Int.eq_ofNat_of_zero_le (show 0 ≤ 0 - p by omega)
      rw [hm]; exact Sx.wrap_u64 (by omega)
    refine ⟨_, _, rat_0 p (decide_eq_true hp) (by omega) (by omega) (by rw [w]; omega) (by rw [w]; omega), rfl, fun c hc N μ s => ?_⟩
    have := hc N μ
    have e : Sx.fneg (Sx.cn (IntKind.u64.wrap (0 - p)).toNat) = Sx.cn (Sx.wd p) := by
      rw [w]
      have hlt : (0 - p).toNat < 9223372036854775808 := by omega
      have nn : Sx.isnan (0 - p).toNat = false := by unfold Sx.isnan; exact decide_eq_false (by omega)
      rw [Sx.cn_of_not nn]
      unfold Sx.fneg
      congr 1
      have x := Nat.two_pow_add_eq_or_of_lt (i := 63) (b := (0 - p).toNat) (by omega) 1
      rw [Sx.neg_word hlt]
      unfold Sx.wd; rw [if_pos hp]; congr 2; omega
    rw [e] at this
    simpa only [Sx.Rep] using this
  · have w : IntKind.u64.wrap p = p := by
      obtain ⟨m, hm⟩ := Int.eq_ofNat_of_zero_le (show 0 ≤ p by omega)
      rw [hm]; exact Sx.wrap_u64 (by omega)
    refine ⟨_, _, rat_1 p (decide_eq_false hp) (by rw [w]; omega) (by rw [w]; omega), rfl, fun c hc N μ s => ?_⟩
    have := hc N μ
    have e : (IntKind.u64.wrap p).toNat = Sx.wd p := by rw [w]; unfold Sx.wd; rw [if_neg hp]
    rw [e] at this
    simp only [Sx.Rep] at this ⊢
    exact ⟨_, this.1, rfl, this.2⟩
theorem rat67_ok : ∀ args v g g', ratS args g = .done v g' → Sx.CallIs Try.prog 67 args v g g' := by
  intro args v g g' h
  unfold ratS at h
  split at h
  · rename_i s p
    obtain ⟨_, g1, a1, h1⟩ := Sx.done_of h
    obtain ⟨rfl, rfl⟩ := Sx.ret_done h1
    refine Sx.scalK sound0 (Sx.ck_done a1) fun hp μ cargs ha => ?_
    obtain rfl := one_int ha
    obtain ⟨path, lv, h1, h2, h3⟩ := rat_road p hp.1 hp.2
    exact ⟨[.int true .i64 p], path, lv, int1, h1, h2, fun c hc => h3 c hc _ _ _⟩
  · exact (Sx.no_done h).elim
/-- SameReal -/
noncomputable def sameS : List Sx.AV → Sx.M Sx.AV := fun l =>
  match l.map Sx.AV.fl1 with
  | [.flt s x, .flt s' y] => Sx.M.ret (Sx.cmpB (s || s') (Nat.beq x y))
  | _ => Sx.M.no
theorem sameS_tch : ∀ args, Sx.Tch (sameS args) := by
  intro args; unfold sameS; split
  · exact Sx.Tch.ret _
  · exact Sx.Tch.no
theorem same_road (n m : Nat) (hn : n < 18446744073709551616) (hm : m < 18446744073709551616) : ∃ path lv, Sx.PureP lv (call0 13 [.raw true n, .raw true m] (Sx.G.on path)) ∧ lv.low 0 = true ∧ ∀ c, (∀ N μ, Sx.Rep N μ lv c) → c = .bool (Nat.beq (Sx.cn n) (Sx.cn m)) := by
  have f1 := Sx.feq_self hn
  have f2 := Sx.feq_self hm
  by_cases h : n = m
  · refine ⟨_, _, same_0 n m (decide_eq_true (by rw [h])), rfl, fun c hc => ?_⟩
    have := hc 0 Sx.MM.none
    simp only [Sx.Rep] at this
    rw [this, h, Nat.beq_refl]
  · have c0 : decide ((n : Int) = (m : Int)) = false := decide_eq_false (by omega)
    cases h1 : Sx.isnan n with
    | true =>
      refine ⟨_, _, same_1 n m c0 (by rw [f1, h1]; rfl), rfl, fun c hc => ?_⟩
      have := hc 0 Sx.MM.none
      simp only [Sx.Rep] at this
      rw [this, f2, Sx.cn_of_nan h1]
      cases h2 : Sx.isnan m with
      | true => rw [Sx.cn_of_nan h2, Nat.beq_refl]; rfl
      | false =>
        rw [Sx.cn_of_not h2]
        have : Nat.beq Sx.qn m = false := by
          cases hb : Nat.beq Sx.qn m with
          | false => rfl
          | true => rw [← Nat.eq_of_beq_eq_true hb, Sx.isnan_qn] at h2; cases h2
        rw [this]; rfl
    | false =>
      refine ⟨_, _, same_2 n m c0 (by rw [f1, h1]; rfl), rfl, fun c hc => ?_⟩
      have := hc 0 Sx.MM.none
      simp only [Sx.Rep] at this
      rw [this, Sx.cn_of_not h1]
      have : Nat.beq n (Sx.cn m) = false := by
        cases hb : Nat.beq n (Sx.cn m) with
        | false => rfl
        | true =>
          have e := Nat.eq_of_beq_eq_true hb
          cases h2 : Sx.isnan m with
          | true => rw [Sx.cn_of_nan h2] at e; rw [e, Sx.isnan_qn] at h1; cases h1
          | false => rw [Sx.cn_of_not h2] at e; exact absurd e h
      rw [this]
theorem two_flt {N : Nat} {μ : Sx.MM} {s s' : Bool} {x y : Nat} {cs : List Value} (h : Sx.Reps N μ [.flt s x, .flt s' y] cs) : ∃ a b, cs = [.float .f64 a, .float .f64 b] ∧ Sx.cn a = x ∧ a < 18446744073709551616 ∧ Sx.cn b = y ∧ b < 18446744073709551616 := by
  simp only [Sx.Reps, Sx.Rep] at h
  obtain ⟨c, r, rfl, ⟨a, rfl, h1, h2⟩, d, r', rfl, ⟨b, rfl, h3, h4⟩, rfl⟩ := h
  exact ⟨a, b, rfl, h1, h2, h3, h4⟩
theorem same13_ok : ∀ args v g g', sameS args g = .done v g' → Sx.CallIs Try.prog 13 args v g g' := by
  intro args v g g' h
  unfold sameS at h
  generalize he : args.map Sx.AV.fl1 = l at h
  split at h
  · rename_i s x s' y
    obtain ⟨rfl, rfl⟩ := Sx.ret_done h
    refine Sx.scal sound0 fun μ cargs ha => ?_
    have ha := ha.fl1
    rw [he] at ha
    obtain ⟨a, b, hc, rfl, h2, rfl, h4⟩ := two_flt ha
    obtain ⟨path, lv, r1, r2, r3⟩ := same_road a b h2 h4
    refine ⟨[.raw true a, .raw true b], path, lv, ?_, r1, r2, fun c hc => Sx.Rep_cmpB.2 (r3 c hc)⟩
    rw [hc]
    simp only [Sx.Reps, Sx.Rep]
    exact ⟨_, _, rfl, ⟨rfl, h2⟩, _, _, rfl, ⟨rfl, h4⟩, rfl⟩
  · exact (Sx.no_done h).elim
noncomputable def gam : Sx.Known := fun f => bif Nat.beq f 11 then some Sx.ofBits else (bif Nat.beq f 48 then some Sx.toBits else (bif Nat.beq f 43 then some finS else (bif Nat.beq f 46 then some finS else (bif Nat.beq f 24 then some placeS else (bif Nat.beq f 66 then some rplaceS else (bif Nat.beq f 32 then some atS else (bif Nat.beq f 67 then some ratS else (bif Nat.beq f 13 then some sameS else (none)))))))))
theorem gam_ok : Sx.KnownOk Try.prog gam := by
  intro f s h
  unfold gam at h
  cases h1 : Nat.beq f 11 with
  | true =>
    rw [h1] at h
    cases h
    cases Nat.eq_of_beq_eq_true h1
    exact (Sx.ofBits_is Try.prog).callIs Try.func11 (by kernel_rfl) (by kernel_rfl) (by kernel_rfl) (by kernel_rfl)
  | false =>
    rw [h1, cond_false] at h
    clear h1
    cases h1 : Nat.beq f 48 with
    | true =>
      rw [h1] at h
      cases h
      cases Nat.eq_of_beq_eq_true h1
      exact (Sx.toBits_is Try.prog).callIs Try.func48 (by kernel_rfl) (by kernel_rfl) (by kernel_rfl) (by kernel_rfl)
    | false =>
      rw [h1, cond_false] at h
      clear h1
      cases h1 : Nat.beq f 43 with
      | true =>
        rw [h1] at h
        cases h
        cases Nat.eq_of_beq_eq_true h1
        exact fin43_ok
      | false =>
        rw [h1, cond_false] at h
        clear h1
        cases h1 : Nat.beq f 46 with
        | true =>
          rw [h1] at h
          cases h
          cases Nat.eq_of_beq_eq_true h1
          exact fin46_ok
        | false =>
          rw [h1, cond_false] at h
          clear h1
          cases h1 : Nat.beq f 24 with
          | true =>
            rw [h1] at h
            cases h
            cases Nat.eq_of_beq_eq_true h1
            exact place24_ok
          | false =>
            rw [h1, cond_false] at h
            clear h1
            cases h1 : Nat.beq f 66 with
            | true =>
              rw [h1] at h
              cases h
              cases Nat.eq_of_beq_eq_true h1
              exact rplace66_ok
            | false =>
              rw [h1, cond_false] at h
              clear h1
              cases h1 : Nat.beq f 32 with
              | true =>
                rw [h1] at h
                cases h
                cases Nat.eq_of_beq_eq_true h1
                exact at32_ok
              | false =>
                rw [h1, cond_false] at h
                clear h1
                cases h1 : Nat.beq f 67 with
                | true =>
                  rw [h1] at h
                  cases h
                  cases Nat.eq_of_beq_eq_true h1
                  exact rat67_ok
                | false =>
                  rw [h1, cond_false] at h
                  clear h1
                  cases h1 : Nat.beq f 13 with
                  | true =>
                    rw [h1] at h
                    cases h
                    cases Nat.eq_of_beq_eq_true h1
                    exact same13_ok
                  | false =>
                    rw [h1, cond_false] at h
                    clear h1
                    cases h
theorem gam_tch : Sx.KnownT gam := by
  intro f s h
  unfold gam at h
  cases h1 : Nat.beq f 11 with
  | true => rw [h1] at h; cases h; exact Sx.Tch.ofBits
  | false =>
    rw [h1, cond_false] at h
    clear h1
    cases h1 : Nat.beq f 48 with
    | true => rw [h1] at h; cases h; exact Sx.Tch.toBits
    | false =>
      rw [h1, cond_false] at h
      clear h1
      cases h1 : Nat.beq f 43 with
      | true => rw [h1] at h; cases h; exact finS_tch
      | false =>
        rw [h1, cond_false] at h
        clear h1
        cases h1 : Nat.beq f 46 with
        | true => rw [h1] at h; cases h; exact finS_tch
        | false =>
          rw [h1, cond_false] at h
          clear h1
          cases h1 : Nat.beq f 24 with
          | true => rw [h1] at h; cases h; exact placeS_tch
          | false =>
            rw [h1, cond_false] at h
            clear h1
            cases h1 : Nat.beq f 66 with
            | true => rw [h1] at h; cases h; exact rplaceS_tch
            | false =>
              rw [h1, cond_false] at h
              clear h1
              cases h1 : Nat.beq f 32 with
              | true => rw [h1] at h; cases h; exact atS_tch
              | false =>
                rw [h1, cond_false] at h
                clear h1
                cases h1 : Nat.beq f 67 with
                | true => rw [h1] at h; cases h; exact ratS_tch
                | false =>
                  rw [h1, cond_false] at h
                  clear h1
                  cases h1 : Nat.beq f 13 with
                  | true => rw [h1] at h; cases h; exact sameS_tch
                  | false =>
                    rw [h1, cond_false] at h
                    clear h1
                    cases h
theorem sound (rounds fuel : Nat) : Sx.CallOk Try.prog (Sx.runA Try.prog gam (Sx.regionA Try.prog) rounds fuel) :=
  Sx.engine gam_ok gam_tch (by kernel_rfl) (by kernel_rfl) rounds fuel
theorem law_run : Sx.isTrueP (Sx.runA Try.prog gam (Sx.regionA Try.prog) 5000 50 9 [] Sx.G.start) = True := by kernel_rfl
theorem law_walk (w : World) : Calls Try.prog 9 #[] w fun e w' => e = .returned (.bool true) ∧ Below w.heap.size w w' :=
  Sx.closed (sound 5000 50) Try.func9 rfl (by kernel_rfl) law_run w

set_option maxRecDepth 100000 in
theorem law_lifted (os : Os) (started : os.Started) (H : Type) (enc : TypeId × Value → H) :
    ReturnsInHanded {} Try.checked os 9 .any (Rows.bisectNamesSpec.pre6 enc Try.prog Try.f9 Rows.bisectNamesRow.domain false) (Rows.bisectNamesSpec.post enc Try.prog Try.f9 false true false false) := by
  refine returnsInHanded_of_change (C := Try.checked) own started (by kernel_rfl) Try.func9
    (ChangeSpec.witness6 (enc := enc) (C := Try.checked) false ⟨#[], #[], []⟩ 8 (by kernel_rfl) (by kernel_rfl) (by kernel_rfl) (by kernel_rfl)) ?_
  intro W base args ds gs before hval0 hW hcnd _
  have hW' := hW
  obtain ⟨p, q, hA0, hV, rfl, hfz, hnd⟩ := hW
  have hA : DataW.TrodAll enc Try.prog W 0 (fun _ => true) true Try.f9.params.toList args.toList ds p := hA0
  rw [Try.params9] at hA
  obtain ⟨hargs, rfl, rfl⟩ := trodAll_nil hA
  obtain rfl : args = #[] := by cases args; simp_all
  obtain ⟨rfl, rfl⟩ := trodVars_none hV
  clear hA0 hval0
  refine (law_walk W).mono fun e W' ⟨he, bel⟩ => ?_
  subst he
  exact ⟨_, rfl, _, _, _, [], _, [], hW', trodAll_mk1 (shut_bool Try.underlying4 _), trodAll_mk0, rfl, bel.frame _, fun h => by cases h⟩
theorem law_over : Rows.bisectNamesRow.holds Try.pinned (OpenSpec.ofChange Rows.bisectNamesSpec) :=
  OpenClaim.holds_of_wide 9 Try.f9 rfl rfl rfl rfl rfl rfl rfl ⟨rfl, rfl, rfl, rfl, rfl⟩ rfl rfl rfl rfl rfl (by kernel_rfl) Try.func9 (by kernel_rfl)
    (of_decide_eq_true (by kernel_rfl)) (by unfold Func.isWrapper; first | (rw [if_pos (by decide +kernel)]; kernel_rfl) | (rw [if_neg (by decide +kernel)]; exact ⟨rfl, rfl⟩))
    (fun os started H enc _ => law_lifted os started H enc)
/-- THE STATEMENT -/
theorem bisectNames_proved : Rows.BisectNamesSaid := law_over
#print axioms bisectNames_proved
end Go.Proofs.Ytilmplaobpmdpaa
