/- BisectHalves: returns true for every input; no conditions. By the engine's runs along each road, checked by the kernel. -/
import Derived.Test.YtilmplaobpmdpaaRows
import Derived.ProofKit
import Derived.OpenShut
import Derived.KernelRfl
import Derived.Test.YtilmplaobpmdpaaSyH
namespace Go.Proofs.Ytilmplaobpmdpaa
open Go.ChangeShapes Go.WideShapes Go.ChangeAt Go.RowKit
set_option linter.unusedVariables false
set_option linter.unusedSimpArgs false

theorem own : ownKnob Try.prog.godebug = none := by kernel_rfl
set_option linter.unusedVariables false
set_option linter.unusedSimpArgs false
noncomputable def gam0 : Sx.Known := fun f => bif Nat.beq f 11 then some Sx.ofBits else bif Nat.beq f 48 then some Sx.toBits else none
theorem gam0_ok : Sx.KnownOk Try.prog gam0 := by
  intro f s h
  unfold gam0 at h
  cases h1 : Nat.beq f 11 with
  | true =>
    rw [h1] at h
    cases h
    cases Nat.eq_of_beq_eq_true h1
    exact (Sx.ofBits_is Try.prog).callIs Try.func11 (by kernel_rfl) (by kernel_rfl) (by kernel_rfl) (by kernel_rfl)
  | false =>
    rw [h1, cond_false] at h
    cases h2 : Nat.beq f 48 with
    | true =>
      rw [h2] at h
      cases h
      cases Nat.eq_of_beq_eq_true h2
      exact (Sx.toBits_is Try.prog).callIs Try.func48 (by kernel_rfl) (by kernel_rfl) (by kernel_rfl) (by kernel_rfl)
    | false => rw [h2] at h; cases h
theorem gam0_tch : Sx.KnownT gam0 := by
  intro f s h
  unfold gam0 at h
  cases h1 : Nat.beq f 11 with
  | true => rw [h1] at h; cases h; exact Sx.Tch.ofBits
  | false =>
    rw [h1, cond_false] at h
    cases h2 : Nat.beq f 48 with
    | true => rw [h2] at h; cases h; exact Sx.Tch.toBits
    | false => rw [h2] at h; cases h
noncomputable def call0 : Sx.Calls' := Sx.runA Try.prog gam0 (Sx.regionA Try.prog) 1000 50
theorem sound0 : Sx.CallOk Try.prog call0 := Sx.engine gam0_ok gam0_tch (by kernel_rfl) (by kernel_rfl) 1000 50

theorem fin_0 (n : Nat) (c0 : (0 : Int) ≤ Go.Sx.bitsV Go.BinOp.andNot Go.IntKind.u64 (↑n : Int) (9223372036854775808 : Int)) (c1 : Go.Sx.bitsV Go.BinOp.andNot Go.IntKind.u64 (↑n : Int) (9223372036854775808 : Int) < (18446744073709551616 : Int)) (c2 : (!Go.Sx.fgt (Go.Sx.cn (Int.toNat (Go.Sx.bitsV Go.BinOp.andNot Go.IntKind.u64 (↑n : Int) (9223372036854775808 : Int))))
      (Go.Sx.cn (9218868437227405311 : Nat))) =
  Bool.true) : Go.Sx.PureP (Go.Sx.AV.sbool (Go.Sx.feq (Go.Sx.cn n) (Go.Sx.cn n))) (call0 43 [.raw true n] (Go.Sx.G.on [true])) := by
  have e : Go.Sx.pureP (Go.Sx.AV.sbool (Go.Sx.feq (Go.Sx.cn n) (Go.Sx.cn n))) (call0 43 [.raw true n] (Go.Sx.G.on [true])) = ((Go.Sx.AV.sbool (Go.Sx.feq (Go.Sx.cn n) (Go.Sx.cn n))) = (Go.Sx.AV.sbool (Go.Sx.feq (Go.Sx.cn n) (Go.Sx.cn n))) ∧ ((True ∧ (((0 : Int) ≤ Go.Sx.bitsV Go.BinOp.andNot Go.IntKind.u64 (↑n : Int) (9223372036854775808 : Int)) ∧ (Go.Sx.bitsV Go.BinOp.andNot Go.IntKind.u64 (↑n : Int) (9223372036854775808 : Int) < (18446744073709551616 : Int)))) ∧ ((!Go.Sx.fgt (Go.Sx.cn (Int.toNat (Go.Sx.bitsV Go.BinOp.andNot Go.IntKind.u64 (↑n : Int) (9223372036854775808 : Int))))
      (Go.Sx.cn (9218868437227405311 : Nat))) =
  Bool.true))) := by kernel_rfl
  exact ⟨by rw [e]; exact ⟨rfl, ⟨⟨trivial, ⟨c0, c1⟩⟩, c2⟩⟩⟩
theorem fin_1 (n : Nat) (c0 : (0 : Int) ≤ Go.Sx.bitsV Go.BinOp.andNot Go.IntKind.u64 (↑n : Int) (9223372036854775808 : Int)) (c1 : Go.Sx.bitsV Go.BinOp.andNot Go.IntKind.u64 (↑n : Int) (9223372036854775808 : Int) < (18446744073709551616 : Int)) (c2 : (!Go.Sx.fgt (Go.Sx.cn (Int.toNat (Go.Sx.bitsV Go.BinOp.andNot Go.IntKind.u64 (↑n : Int) (9223372036854775808 : Int))))
      (Go.Sx.cn (9218868437227405311 : Nat))) =
  Bool.false) : Go.Sx.PureP (Go.Sx.AV.bool Bool.false) (call0 43 [.raw true n] (Go.Sx.G.on [false])) := by
  have e : Go.Sx.pureP (Go.Sx.AV.bool Bool.false) (call0 43 [.raw true n] (Go.Sx.G.on [false])) = ((Go.Sx.AV.bool Bool.false) = (Go.Sx.AV.bool Bool.false) ∧ ((True ∧ (((0 : Int) ≤ Go.Sx.bitsV Go.BinOp.andNot Go.IntKind.u64 (↑n : Int) (9223372036854775808 : Int)) ∧ (Go.Sx.bitsV Go.BinOp.andNot Go.IntKind.u64 (↑n : Int) (9223372036854775808 : Int) < (18446744073709551616 : Int)))) ∧ ((!Go.Sx.fgt (Go.Sx.cn (Int.toNat (Go.Sx.bitsV Go.BinOp.andNot Go.IntKind.u64 (↑n : Int) (9223372036854775808 : Int))))
      (Go.Sx.cn (9218868437227405311 : Nat))) =
  Bool.false))) := by kernel_rfl
  exact ⟨by rw [e]; exact ⟨rfl, ⟨⟨trivial, ⟨c0, c1⟩⟩, c2⟩⟩⟩
theorem rfin_0 (n : Nat) : Go.Sx.PureP (Go.Sx.AV.sbool (Go.Sx.feq (Go.Sx.fsub (Go.Sx.cn n) (Go.Sx.cn n)) (Go.Sx.cn (0 : Nat)))) (call0 46 [.raw true n] (Go.Sx.G.on [])) := by
  have e : Go.Sx.pureP (Go.Sx.AV.sbool (Go.Sx.feq (Go.Sx.fsub (Go.Sx.cn n) (Go.Sx.cn n)) (Go.Sx.cn (0 : Nat)))) (call0 46 [.raw true n] (Go.Sx.G.on [])) = ((Go.Sx.AV.sbool (Go.Sx.feq (Go.Sx.fsub (Go.Sx.cn n) (Go.Sx.cn n)) (Go.Sx.cn (0 : Nat)))) = (Go.Sx.AV.sbool (Go.Sx.feq (Go.Sx.fsub (Go.Sx.cn n) (Go.Sx.cn n)) (Go.Sx.cn (0 : Nat)))) ∧ True) := by kernel_rfl
  exact ⟨by rw [e]; exact ⟨rfl, trivial⟩⟩
theorem place_0 (n : Nat) (c0 : (!Go.Sx.feq (Go.Sx.cn n) (Go.Sx.cn n)) = Bool.true) : Go.Sx.PureP (Go.Sx.AV.tup [Go.Sx.AV.int Bool.false Go.IntKind.i64 (0 : Int), Go.Sx.AV.bool Bool.false]) (call0 24 [.raw true n] (Go.Sx.G.on [true])) := by
  have e : Go.Sx.pureP (Go.Sx.AV.tup [Go.Sx.AV.int Bool.false Go.IntKind.i64 (0 : Int), Go.Sx.AV.bool Bool.false]) (call0 24 [.raw true n] (Go.Sx.G.on [true])) = ((Go.Sx.AV.tup [Go.Sx.AV.int Bool.false Go.IntKind.i64 (0 : Int), Go.Sx.AV.bool Bool.false]) = (Go.Sx.AV.tup [Go.Sx.AV.int Bool.false Go.IntKind.i64 (0 : Int), Go.Sx.AV.bool Bool.false]) ∧ (True ∧ ((!Go.Sx.feq (Go.Sx.cn n) (Go.Sx.cn n)) = Bool.true))) := by kernel_rfl
  exact ⟨by rw [e]; exact ⟨rfl, ⟨trivial, c0⟩⟩⟩
theorem place_1 (n : Nat) (c0 : (!Go.Sx.feq (Go.Sx.cn n) (Go.Sx.cn n)) = Bool.false) (c1 : (-9223372036854775808 : Int) ≤ Go.Sx.bitsV Go.BinOp.andNot Go.IntKind.u64 (↑n : Int) (9223372036854775808 : Int)) (c2 : Go.Sx.bitsV Go.BinOp.andNot Go.IntKind.u64 (↑n : Int) (9223372036854775808 : Int) ≤ (9223372036854775807 : Int)) (c3 : (0 : Int) ≤ (63 : Int)) (c4 : Decidable.decide
    (Int.fdiv (↑n : Int) ((2 : Int) ^ Min.min (Int.toNat (63 : Int)) (Go.IntKind.bits Go.IntKind.u64)) = (1 : Int)) =
  Bool.true) (c5 : (-9223372036854775808 : Int) ≤
  (0 : Int) - Go.Sx.bitsV Go.BinOp.andNot Go.IntKind.u64 (↑n : Int) (9223372036854775808 : Int)) (c6 : (0 : Int) - Go.Sx.bitsV Go.BinOp.andNot Go.IntKind.u64 (↑n : Int) (9223372036854775808 : Int) ≤
  (9223372036854775807 : Int)) : Go.Sx.PureP (Go.Sx.AV.tup
  [Go.Sx.AV.int Bool.true Go.IntKind.i64
      ((0 : Int) - Go.Sx.bitsV Go.BinOp.andNot Go.IntKind.u64 (↑n : Int) (9223372036854775808 : Int)),
    Go.Sx.AV.bool Bool.true]) (call0 24 [.raw true n] (Go.Sx.G.on [false, true])) := by
  have e : Go.Sx.pureP (Go.Sx.AV.tup
  [Go.Sx.AV.int Bool.true Go.IntKind.i64
      ((0 : Int) - Go.Sx.bitsV Go.BinOp.andNot Go.IntKind.u64 (↑n : Int) (9223372036854775808 : Int)),
    Go.Sx.AV.bool Bool.true]) (call0 24 [.raw true n] (Go.Sx.G.on [false, true])) = ((Go.Sx.AV.tup
  [Go.Sx.AV.int Bool.true Go.IntKind.i64
      ((0 : Int) - Go.Sx.bitsV Go.BinOp.andNot Go.IntKind.u64 (↑n : Int) (9223372036854775808 : Int)),
    Go.Sx.AV.bool Bool.true]) = (Go.Sx.AV.tup
  [Go.Sx.AV.int Bool.true Go.IntKind.i64
      ((0 : Int) - Go.Sx.bitsV Go.BinOp.andNot Go.IntKind.u64 (↑n : Int) (9223372036854775808 : Int)),
    Go.Sx.AV.bool Bool.true]) ∧ (((((True ∧ ((!Go.Sx.feq (Go.Sx.cn n) (Go.Sx.cn n)) = Bool.false)) ∧ (((-9223372036854775808 : Int) ≤ Go.Sx.bitsV Go.BinOp.andNot Go.IntKind.u64 (↑n : Int) (9223372036854775808 : Int)) ∧ (Go.Sx.bitsV Go.BinOp.andNot Go.IntKind.u64 (↑n : Int) (9223372036854775808 : Int) ≤ (9223372036854775807 : Int)))) ∧ ((0 : Int) ≤ (63 : Int))) ∧ (Decidable.decide
    (Int.fdiv (↑n : Int) ((2 : Int) ^ Min.min (Int.toNat (63 : Int)) (Go.IntKind.bits Go.IntKind.u64)) = (1 : Int)) =
  Bool.true)) ∧ (((-9223372036854775808 : Int) ≤
  (0 : Int) - Go.Sx.bitsV Go.BinOp.andNot Go.IntKind.u64 (↑n : Int) (9223372036854775808 : Int)) ∧ ((0 : Int) - Go.Sx.bitsV Go.BinOp.andNot Go.IntKind.u64 (↑n : Int) (9223372036854775808 : Int) ≤
  (9223372036854775807 : Int))))) := by kernel_rfl
  exact ⟨by rw [e]; exact ⟨rfl, ⟨⟨⟨⟨⟨trivial, c0⟩, ⟨c1, c2⟩⟩, c3⟩, c4⟩, ⟨c5, c6⟩⟩⟩⟩
theorem place_2 (n : Nat) (c0 : (!Go.Sx.feq (Go.Sx.cn n) (Go.Sx.cn n)) = Bool.false) (c1 : (-9223372036854775808 : Int) ≤ Go.Sx.bitsV Go.BinOp.andNot Go.IntKind.u64 (↑n : Int) (9223372036854775808 : Int)) (c2 : Go.Sx.bitsV Go.BinOp.andNot Go.IntKind.u64 (↑n : Int) (9223372036854775808 : Int) ≤ (9223372036854775807 : Int)) (c3 : (0 : Int) ≤ (63 : Int)) (c4 : Decidable.decide
    (Int.fdiv (↑n : Int) ((2 : Int) ^ Min.min (Int.toNat (63 : Int)) (Go.IntKind.bits Go.IntKind.u64)) = (1 : Int)) =
  Bool.false) : Go.Sx.PureP (Go.Sx.AV.tup
  [Go.Sx.AV.int Bool.true Go.IntKind.i64
      (Go.Sx.bitsV Go.BinOp.andNot Go.IntKind.u64 (↑n : Int) (9223372036854775808 : Int)),
    Go.Sx.AV.bool Bool.true]) (call0 24 [.raw true n] (Go.Sx.G.on [false, false])) := by
  have e : Go.Sx.pureP (Go.Sx.AV.tup
  [Go.Sx.AV.int Bool.true Go.IntKind.i64
      (Go.Sx.bitsV Go.BinOp.andNot Go.IntKind.u64 (↑n : Int) (9223372036854775808 : Int)),
    Go.Sx.AV.bool Bool.true]) (call0 24 [.raw true n] (Go.Sx.G.on [false, false])) = ((Go.Sx.AV.tup
  [Go.Sx.AV.int Bool.true Go.IntKind.i64
      (Go.Sx.bitsV Go.BinOp.andNot Go.IntKind.u64 (↑n : Int) (9223372036854775808 : Int)),
    Go.Sx.AV.bool Bool.true]) = (Go.Sx.AV.tup
  [Go.Sx.AV.int Bool.true Go.IntKind.i64
      (Go.Sx.bitsV Go.BinOp.andNot Go.IntKind.u64 (↑n : Int) (9223372036854775808 : Int)),
    Go.Sx.AV.bool Bool.true]) ∧ ((((True ∧ ((!Go.Sx.feq (Go.Sx.cn n) (Go.Sx.cn n)) = Bool.false)) ∧ (((-9223372036854775808 : Int) ≤ Go.Sx.bitsV Go.BinOp.andNot Go.IntKind.u64 (↑n : Int) (9223372036854775808 : Int)) ∧ (Go.Sx.bitsV Go.BinOp.andNot Go.IntKind.u64 (↑n : Int) (9223372036854775808 : Int) ≤ (9223372036854775807 : Int)))) ∧ ((0 : Int) ≤ (63 : Int))) ∧ (Decidable.decide
    (Int.fdiv (↑n : Int) ((2 : Int) ^ Min.min (Int.toNat (63 : Int)) (Go.IntKind.bits Go.IntKind.u64)) = (1 : Int)) =
  Bool.false))) := by kernel_rfl
  exact ⟨by rw [e]; exact ⟨rfl, ⟨⟨⟨⟨trivial, c0⟩, ⟨c1, c2⟩⟩, c3⟩, c4⟩⟩⟩
theorem rplace_0 (n : Nat) (c0 : (0 : Int) ≤ Go.Sx.bitsV Go.BinOp.andNot Go.IntKind.u64 (↑n : Int) (9223372036854775808 : Int)) (c1 : Go.Sx.bitsV Go.BinOp.andNot Go.IntKind.u64 (↑n : Int) (9223372036854775808 : Int) < (18446744073709551616 : Int)) (c2 : (-9223372036854775808 : Int) ≤
  (↑(Int.toNat (Go.Sx.bitsV Go.BinOp.andNot Go.IntKind.u64 (↑n : Int) (9223372036854775808 : Int))) : Int)) (c3 : (↑(Int.toNat (Go.Sx.bitsV Go.BinOp.andNot Go.IntKind.u64 (↑n : Int) (9223372036854775808 : Int))) : Int) ≤
  (9223372036854775807 : Int)) (c4 : Go.Sx.flt (Go.Sx.cn n) (Go.Sx.cn (0 : Nat)) = Bool.true) (c5 : (-9223372036854775808 : Int) ≤
  (0 : Int) - (↑(Int.toNat (Go.Sx.bitsV Go.BinOp.andNot Go.IntKind.u64 (↑n : Int) (9223372036854775808 : Int))) : Int)) (c6 : (0 : Int) - (↑(Int.toNat (Go.Sx.bitsV Go.BinOp.andNot Go.IntKind.u64 (↑n : Int) (9223372036854775808 : Int))) : Int) ≤
  (9223372036854775807 : Int)) : Go.Sx.PureP (Go.Sx.AV.int Bool.true Go.IntKind.i64
  ((0 : Int) - (↑(Int.toNat (Go.Sx.bitsV Go.BinOp.andNot Go.IntKind.u64 (↑n : Int) (9223372036854775808 : Int))) : Int))) (call0 66 [.raw true n] (Go.Sx.G.on [true])) := by
  have e : Go.Sx.pureP (Go.Sx.AV.int Bool.true Go.IntKind.i64
  ((0 : Int) - (↑(Int.toNat (Go.Sx.bitsV Go.BinOp.andNot Go.IntKind.u64 (↑n : Int) (9223372036854775808 : Int))) : Int))) (call0 66 [.raw true n] (Go.Sx.G.on [true])) = ((Go.Sx.AV.int Bool.true Go.IntKind.i64
  ((0 : Int) - (↑(Int.toNat (Go.Sx.bitsV Go.BinOp.andNot Go.IntKind.u64 (↑n : Int) (9223372036854775808 : Int))) : Int))) = (Go.Sx.AV.int Bool.true Go.IntKind.i64
  ((0 : Int) - (↑(Int.toNat (Go.Sx.bitsV Go.BinOp.andNot Go.IntKind.u64 (↑n : Int) (9223372036854775808 : Int))) : Int))) ∧ ((((True ∧ (((0 : Int) ≤ Go.Sx.bitsV Go.BinOp.andNot Go.IntKind.u64 (↑n : Int) (9223372036854775808 : Int)) ∧ (Go.Sx.bitsV Go.BinOp.andNot Go.IntKind.u64 (↑n : Int) (9223372036854775808 : Int) < (18446744073709551616 : Int)))) ∧ (((-9223372036854775808 : Int) ≤
  (↑(Int.toNat (Go.Sx.bitsV Go.BinOp.andNot Go.IntKind.u64 (↑n : Int) (9223372036854775808 : Int))) : Int)) ∧ ((↑(Int.toNat (Go.Sx.bitsV Go.BinOp.andNot Go.IntKind.u64 (↑n : Int) (9223372036854775808 : Int))) : Int) ≤
  (9223372036854775807 : Int)))) ∧ (Go.Sx.flt (Go.Sx.cn n) (Go.Sx.cn (0 : Nat)) = Bool.true)) ∧ (((-9223372036854775808 : Int) ≤
  (0 : Int) - (↑(Int.toNat (Go.Sx.bitsV Go.BinOp.andNot Go.IntKind.u64 (↑n : Int) (9223372036854775808 : Int))) : Int)) ∧ ((0 : Int) - (↑(Int.toNat (Go.Sx.bitsV Go.BinOp.andNot Go.IntKind.u64 (↑n : Int) (9223372036854775808 : Int))) : Int) ≤
  (9223372036854775807 : Int))))) := by kernel_rfl
  exact ⟨by rw [e]; exact ⟨rfl, ⟨⟨⟨⟨trivial, ⟨c0, c1⟩⟩, ⟨c2, c3⟩⟩, c4⟩, ⟨c5, c6⟩⟩⟩⟩
theorem rplace_1 (n : Nat) (c0 : (0 : Int) ≤ Go.Sx.bitsV Go.BinOp.andNot Go.IntKind.u64 (↑n : Int) (9223372036854775808 : Int)) (c1 : Go.Sx.bitsV Go.BinOp.andNot Go.IntKind.u64 (↑n : Int) (9223372036854775808 : Int) < (18446744073709551616 : Int)) (c2 : (-9223372036854775808 : Int) ≤
  (↑(Int.toNat (Go.Sx.bitsV Go.BinOp.andNot Go.IntKind.u64 (↑n : Int) (9223372036854775808 : Int))) : Int)) (c3 : (↑(Int.toNat (Go.Sx.bitsV Go.BinOp.andNot Go.IntKind.u64 (↑n : Int) (9223372036854775808 : Int))) : Int) ≤
  (9223372036854775807 : Int)) (c4 : Go.Sx.flt (Go.Sx.cn n) (Go.Sx.cn (0 : Nat)) = Bool.false) : Go.Sx.PureP (Go.Sx.AV.int Bool.true Go.IntKind.i64
  (↑(Int.toNat (Go.Sx.bitsV Go.BinOp.andNot Go.IntKind.u64 (↑n : Int) (9223372036854775808 : Int))) : Int)) (call0 66 [.raw true n] (Go.Sx.G.on [false])) := by
  have e : Go.Sx.pureP (Go.Sx.AV.int Bool.true Go.IntKind.i64
  (↑(Int.toNat (Go.Sx.bitsV Go.BinOp.andNot Go.IntKind.u64 (↑n : Int) (9223372036854775808 : Int))) : Int)) (call0 66 [.raw true n] (Go.Sx.G.on [false])) = ((Go.Sx.AV.int Bool.true Go.IntKind.i64
  (↑(Int.toNat (Go.Sx.bitsV Go.BinOp.andNot Go.IntKind.u64 (↑n : Int) (9223372036854775808 : Int))) : Int)) = (Go.Sx.AV.int Bool.true Go.IntKind.i64
  (↑(Int.toNat (Go.Sx.bitsV Go.BinOp.andNot Go.IntKind.u64 (↑n : Int) (9223372036854775808 : Int))) : Int)) ∧ (((True ∧ (((0 : Int) ≤ Go.Sx.bitsV Go.BinOp.andNot Go.IntKind.u64 (↑n : Int) (9223372036854775808 : Int)) ∧ (Go.Sx.bitsV Go.BinOp.andNot Go.IntKind.u64 (↑n : Int) (9223372036854775808 : Int) < (18446744073709551616 : Int)))) ∧ (((-9223372036854775808 : Int) ≤
  (↑(Int.toNat (Go.Sx.bitsV Go.BinOp.andNot Go.IntKind.u64 (↑n : Int) (9223372036854775808 : Int))) : Int)) ∧ ((↑(Int.toNat (Go.Sx.bitsV Go.BinOp.andNot Go.IntKind.u64 (↑n : Int) (9223372036854775808 : Int))) : Int) ≤
  (9223372036854775807 : Int)))) ∧ (Go.Sx.flt (Go.Sx.cn n) (Go.Sx.cn (0 : Nat)) = Bool.false))) := by kernel_rfl
  exact ⟨by rw [e]; exact ⟨rfl, ⟨⟨⟨trivial, ⟨c0, c1⟩⟩, ⟨c2, c3⟩⟩, c4⟩⟩⟩
theorem at_0 (n : Int) (c0 : Decidable.decide ((9218868437227405312 : Int) < n) = Bool.true) : Go.Sx.PureP (Go.Sx.AV.tup [Go.Sx.AV.flt Bool.false (Go.Sx.cn (0 : Nat)), Go.Sx.AV.bool Bool.false]) (call0 32 [.int true .i64 n] (Go.Sx.G.on [true])) := by
  have e : Go.Sx.pureP (Go.Sx.AV.tup [Go.Sx.AV.flt Bool.false (Go.Sx.cn (0 : Nat)), Go.Sx.AV.bool Bool.false]) (call0 32 [.int true .i64 n] (Go.Sx.G.on [true])) = ((Go.Sx.AV.tup [Go.Sx.AV.flt Bool.false (Go.Sx.cn (0 : Nat)), Go.Sx.AV.bool Bool.false]) = (Go.Sx.AV.tup [Go.Sx.AV.flt Bool.false (Go.Sx.cn (0 : Nat)), Go.Sx.AV.bool Bool.false]) ∧ (True ∧ (Decidable.decide ((9218868437227405312 : Int) < n) = Bool.true))) := by kernel_rfl
  exact ⟨by rw [e]; exact ⟨rfl, ⟨trivial, c0⟩⟩⟩
theorem at_1 (n : Int) (c0 : Decidable.decide ((9218868437227405312 : Int) < n) = Bool.false) (c1 : Decidable.decide (n < (-9218868437227405312 : Int)) = Bool.true) : Go.Sx.PureP (Go.Sx.AV.tup [Go.Sx.AV.flt Bool.false (Go.Sx.cn (0 : Nat)), Go.Sx.AV.bool Bool.false]) (call0 32 [.int true .i64 n] (Go.Sx.G.on [false, true])) := by
  have e : Go.Sx.pureP (Go.Sx.AV.tup [Go.Sx.AV.flt Bool.false (Go.Sx.cn (0 : Nat)), Go.Sx.AV.bool Bool.false]) (call0 32 [.int true .i64 n] (Go.Sx.G.on [false, true])) = ((Go.Sx.AV.tup [Go.Sx.AV.flt Bool.false (Go.Sx.cn (0 : Nat)), Go.Sx.AV.bool Bool.false]) = (Go.Sx.AV.tup [Go.Sx.AV.flt Bool.false (Go.Sx.cn (0 : Nat)), Go.Sx.AV.bool Bool.false]) ∧ ((True ∧ (Decidable.decide ((9218868437227405312 : Int) < n) = Bool.false)) ∧ (Decidable.decide (n < (-9218868437227405312 : Int)) = Bool.true))) := by kernel_rfl
  exact ⟨by rw [e]; exact ⟨rfl, ⟨⟨trivial, c0⟩, c1⟩⟩⟩
theorem at_2 (n : Int) (c0 : Decidable.decide ((9218868437227405312 : Int) < n) = Bool.false) (c1 : Decidable.decide (n < (-9218868437227405312 : Int)) = Bool.false) (c2 : Decidable.decide (n < (0 : Int)) = Bool.true) (c3 : (-9223372036854775808 : Int) ≤ (0 : Int) - n) (c4 : (0 : Int) - n ≤ (9223372036854775807 : Int)) (c5 : (0 : Int) ≤
  Go.Sx.bitsV Go.BinOp.or Go.IntKind.u64 (Go.IntKind.wrap Go.IntKind.u64 ((0 : Int) - n)) (9223372036854775808 : Int)) (c6 : Go.Sx.bitsV Go.BinOp.or Go.IntKind.u64 (Go.IntKind.wrap Go.IntKind.u64 ((0 : Int) - n)) (9223372036854775808 : Int) <
  (18446744073709551616 : Int)) : Go.Sx.PureP (Go.Sx.AV.tup
  [Go.Sx.AV.raw Bool.true
      (Int.toNat
        (Go.Sx.bitsV Go.BinOp.or Go.IntKind.u64 (Go.IntKind.wrap Go.IntKind.u64 ((0 : Int) - n))
          (9223372036854775808 : Int))),
    Go.Sx.AV.bool Bool.true]) (call0 32 [.int true .i64 n] (Go.Sx.G.on [false, false, true])) := by
  have e : Go.Sx.pureP (Go.Sx.AV.tup
  [Go.Sx.AV.raw Bool.true
      (Int.toNat
        (Go.Sx.bitsV Go.BinOp.or Go.IntKind.u64 (Go.IntKind.wrap Go.IntKind.u64 ((0 : Int) - n))
          (9223372036854775808 : Int))),
    Go.Sx.AV.bool Bool.true]) (call0 32 [.int true .i64 n] (Go.Sx.G.on [false, false, true])) = ((Go.Sx.AV.tup
  [Go.Sx.AV.raw Bool.true
      (Int.toNat
        (Go.Sx.bitsV Go.BinOp.or Go.IntKind.u64 (Go.IntKind.wrap Go.IntKind.u64 ((0 : Int) - n))
          (9223372036854775808 : Int))),
    Go.Sx.AV.bool Bool.true]) = (Go.Sx.AV.tup
  [Go.Sx.AV.raw Bool.true
      (Int.toNat
        (Go.Sx.bitsV Go.BinOp.or Go.IntKind.u64 (Go.IntKind.wrap Go.IntKind.u64 ((0 : Int) - n))
          (9223372036854775808 : Int))),
    Go.Sx.AV.bool Bool.true]) ∧ (((((True ∧ (Decidable.decide ((9218868437227405312 : Int) < n) = Bool.false)) ∧ (Decidable.decide (n < (-9218868437227405312 : Int)) = Bool.false)) ∧ (Decidable.decide (n < (0 : Int)) = Bool.true)) ∧ (((-9223372036854775808 : Int) ≤ (0 : Int) - n) ∧ ((0 : Int) - n ≤ (9223372036854775807 : Int)))) ∧ (((0 : Int) ≤
  Go.Sx.bitsV Go.BinOp.or Go.IntKind.u64 (Go.IntKind.wrap Go.IntKind.u64 ((0 : Int) - n)) (9223372036854775808 : Int)) ∧ (Go.Sx.bitsV Go.BinOp.or Go.IntKind.u64 (Go.IntKind.wrap Go.IntKind.u64 ((0 : Int) - n)) (9223372036854775808 : Int) <
  (18446744073709551616 : Int))))) := by kernel_rfl
  exact ⟨by rw [e]; exact ⟨rfl, ⟨⟨⟨⟨⟨trivial, c0⟩, c1⟩, c2⟩, ⟨c3, c4⟩⟩, ⟨c5, c6⟩⟩⟩⟩
theorem at_3 (n : Int) (c0 : Decidable.decide ((9218868437227405312 : Int) < n) = Bool.false) (c1 : Decidable.decide (n < (-9218868437227405312 : Int)) = Bool.false) (c2 : Decidable.decide (n < (0 : Int)) = Bool.false) (c3 : (0 : Int) ≤ Go.IntKind.wrap Go.IntKind.u64 n) (c4 : Go.IntKind.wrap Go.IntKind.u64 n < (18446744073709551616 : Int)) : Go.Sx.PureP (Go.Sx.AV.tup [Go.Sx.AV.raw Bool.true (Int.toNat (Go.IntKind.wrap Go.IntKind.u64 n)), Go.Sx.AV.bool Bool.true]) (call0 32 [.int true .i64 n] (Go.Sx.G.on [false, false, false])) := by
  have e : Go.Sx.pureP (Go.Sx.AV.tup [Go.Sx.AV.raw Bool.true (Int.toNat (Go.IntKind.wrap Go.IntKind.u64 n)), Go.Sx.AV.bool Bool.true]) (call0 32 [.int true .i64 n] (Go.Sx.G.on [false, false, false])) = ((Go.Sx.AV.tup [Go.Sx.AV.raw Bool.true (Int.toNat (Go.IntKind.wrap Go.IntKind.u64 n)), Go.Sx.AV.bool Bool.true]) = (Go.Sx.AV.tup [Go.Sx.AV.raw Bool.true (Int.toNat (Go.IntKind.wrap Go.IntKind.u64 n)), Go.Sx.AV.bool Bool.true]) ∧ ((((True ∧ (Decidable.decide ((9218868437227405312 : Int) < n) = Bool.false)) ∧ (Decidable.decide (n < (-9218868437227405312 : Int)) = Bool.false)) ∧ (Decidable.decide (n < (0 : Int)) = Bool.false)) ∧ (((0 : Int) ≤ Go.IntKind.wrap Go.IntKind.u64 n) ∧ (Go.IntKind.wrap Go.IntKind.u64 n < (18446744073709551616 : Int))))) := by kernel_rfl
  exact ⟨by rw [e]; exact ⟨rfl, ⟨⟨⟨⟨trivial, c0⟩, c1⟩, c2⟩, ⟨c3, c4⟩⟩⟩⟩
theorem rat_0 (n : Int) (c0 : Decidable.decide (n < (0 : Int)) = Bool.true) (c1 : (-9223372036854775808 : Int) ≤ (0 : Int) - n) (c2 : (0 : Int) - n ≤ (9223372036854775807 : Int)) (c3 : (0 : Int) ≤ Go.IntKind.wrap Go.IntKind.u64 ((0 : Int) - n)) (c4 : Go.IntKind.wrap Go.IntKind.u64 ((0 : Int) - n) < (18446744073709551616 : Int)) : Go.Sx.PureP (Go.Sx.AV.flt Bool.true (Go.Sx.fneg (Go.Sx.cn (Int.toNat (Go.IntKind.wrap Go.IntKind.u64 ((0 : Int) - n)))))) (call0 67 [.int true .i64 n] (Go.Sx.G.on [true])) := by
  have e : Go.Sx.pureP (Go.Sx.AV.flt Bool.true (Go.Sx.fneg (Go.Sx.cn (Int.toNat (Go.IntKind.wrap Go.IntKind.u64 ((0 : Int) - n)))))) (call0 67 [.int true .i64 n] (Go.Sx.G.on [true])) = ((Go.Sx.AV.flt Bool.true (Go.Sx.fneg (Go.Sx.cn (Int.toNat (Go.IntKind.wrap Go.IntKind.u64 ((0 : Int) - n)))))) = (Go.Sx.AV.flt Bool.true (Go.Sx.fneg (Go.Sx.cn (Int.toNat (Go.IntKind.wrap Go.IntKind.u64 ((0 : Int) - n)))))) ∧ (((True ∧ (Decidable.decide (n < (0 : Int)) = Bool.true)) ∧ (((-9223372036854775808 : Int) ≤ (0 : Int) - n) ∧ ((0 : Int) - n ≤ (9223372036854775807 : Int)))) ∧ (((0 : Int) ≤ Go.IntKind.wrap Go.IntKind.u64 ((0 : Int) - n)) ∧ (Go.IntKind.wrap Go.IntKind.u64 ((0 : Int) - n) < (18446744073709551616 : Int))))) := by kernel_rfl
  exact ⟨by rw [e]; exact ⟨rfl, ⟨⟨⟨trivial, c0⟩, ⟨c1, c2⟩⟩, ⟨c3, c4⟩⟩⟩⟩
theorem rat_1 (n : Int) (c0 : Decidable.decide (n < (0 : Int)) = Bool.false) (c1 : (0 : Int) ≤ Go.IntKind.wrap Go.IntKind.u64 n) (c2 : Go.IntKind.wrap Go.IntKind.u64 n < (18446744073709551616 : Int)) : Go.Sx.PureP (Go.Sx.AV.raw Bool.true (Int.toNat (Go.IntKind.wrap Go.IntKind.u64 n))) (call0 67 [.int true .i64 n] (Go.Sx.G.on [false])) := by
  have e : Go.Sx.pureP (Go.Sx.AV.raw Bool.true (Int.toNat (Go.IntKind.wrap Go.IntKind.u64 n))) (call0 67 [.int true .i64 n] (Go.Sx.G.on [false])) = ((Go.Sx.AV.raw Bool.true (Int.toNat (Go.IntKind.wrap Go.IntKind.u64 n))) = (Go.Sx.AV.raw Bool.true (Int.toNat (Go.IntKind.wrap Go.IntKind.u64 n))) ∧ ((True ∧ (Decidable.decide (n < (0 : Int)) = Bool.false)) ∧ (((0 : Int) ≤ Go.IntKind.wrap Go.IntKind.u64 n) ∧ (Go.IntKind.wrap Go.IntKind.u64 n < (18446744073709551616 : Int))))) := by kernel_rfl
  exact ⟨by rw [e]; exact ⟨rfl, ⟨⟨trivial, c0⟩, ⟨c1, c2⟩⟩⟩⟩
theorem same_0 (n m : Nat) (c0 : Decidable.decide ((↑n : Int) = (↑m : Int)) = Bool.true) : Go.Sx.PureP (Go.Sx.AV.bool Bool.true) (call0 13 [.raw true n, .raw true m] (Go.Sx.G.on [true])) := by
  have e : Go.Sx.pureP (Go.Sx.AV.bool Bool.true) (call0 13 [.raw true n, .raw true m] (Go.Sx.G.on [true])) = ((Go.Sx.AV.bool Bool.true) = (Go.Sx.AV.bool Bool.true) ∧ (True ∧ (Decidable.decide ((↑n : Int) = (↑m : Int)) = Bool.true))) := by kernel_rfl
  exact ⟨by rw [e]; exact ⟨rfl, ⟨trivial, c0⟩⟩⟩
theorem same_1 (n m : Nat) (c0 : Decidable.decide ((↑n : Int) = (↑m : Int)) = Bool.false) (c1 : (!Go.Sx.feq (Go.Sx.cn n) (Go.Sx.cn n)) = Bool.true) : Go.Sx.PureP (Go.Sx.AV.sbool !Go.Sx.feq (Go.Sx.cn m) (Go.Sx.cn m)) (call0 13 [.raw true n, .raw true m] (Go.Sx.G.on [false, true])) := by
  have e : Go.Sx.pureP (Go.Sx.AV.sbool !Go.Sx.feq (Go.Sx.cn m) (Go.Sx.cn m)) (call0 13 [.raw true n, .raw true m] (Go.Sx.G.on [false, true])) = ((Go.Sx.AV.sbool !Go.Sx.feq (Go.Sx.cn m) (Go.Sx.cn m)) = (Go.Sx.AV.sbool !Go.Sx.feq (Go.Sx.cn m) (Go.Sx.cn m)) ∧ ((True ∧ (Decidable.decide ((↑n : Int) = (↑m : Int)) = Bool.false)) ∧ ((!Go.Sx.feq (Go.Sx.cn n) (Go.Sx.cn n)) = Bool.true))) := by kernel_rfl
  exact ⟨by rw [e]; exact ⟨rfl, ⟨⟨trivial, c0⟩, c1⟩⟩⟩
theorem same_2 (n m : Nat) (c0 : Decidable.decide ((↑n : Int) = (↑m : Int)) = Bool.false) (c1 : (!Go.Sx.feq (Go.Sx.cn n) (Go.Sx.cn n)) = Bool.false) : Go.Sx.PureP (Go.Sx.AV.bool Bool.false) (call0 13 [.raw true n, .raw true m] (Go.Sx.G.on [false, false])) := by
  have e : Go.Sx.pureP (Go.Sx.AV.bool Bool.false) (call0 13 [.raw true n, .raw true m] (Go.Sx.G.on [false, false])) = ((Go.Sx.AV.bool Bool.false) = (Go.Sx.AV.bool Bool.false) ∧ ((True ∧ (Decidable.decide ((↑n : Int) = (↑m : Int)) = Bool.false)) ∧ ((!Go.Sx.feq (Go.Sx.cn n) (Go.Sx.cn n)) = Bool.false))) := by kernel_rfl
  exact ⟨by rw [e]; exact ⟨rfl, ⟨⟨trivial, c0⟩, c1⟩⟩⟩
theorem finD_cn {n : Nat} (h : n < 18446744073709551616) : Sx.finD (Sx.cn n) = Sx.finD n := by
  cases hn : Sx.isnan n with
  | false => rw [Sx.cn_of_not hn]
  | true =>
    rw [Sx.cn_of_nan hn]
    have : 9218868437227405312 < n % 9223372036854775808 := by simpa [Sx.isnan] using hn
    have e : Sx.finD n = false := decide_eq_false (by omega)
    rw [e]; decide
/-- the float that a raw or a plain one is -/
theorem one_flt {N : Nat} {μ : Sx.MM} {s : Bool} {x : Nat} {cargs : Array Value} (h : Sx.Reps N μ [.flt s x] cargs.toList) : ∃ b, cargs = #[.float .f64 b] ∧ Sx.cn b = x ∧ b < 18446744073709551616 := by
  obtain ⟨c, rfl, hx⟩ := h.one
  simp only [Sx.Rep] at hx
  obtain ⟨b, rfl, h1, h2⟩ := hx
  exact ⟨b, rfl, h1, h2⟩
theorem one_raw {N : Nat} {μ : Sx.MM} {s : Bool} {x : Nat} {cargs : Array Value} (h : Sx.Reps N μ [.raw s x] cargs.toList) : cargs = #[.float .f64 x] ∧ x < 18446744073709551616 := by
  obtain ⟨c, rfl, hx⟩ := h.one
  simp only [Sx.Rep] at hx
  obtain ⟨rfl, h2⟩ := hx
  exact ⟨rfl, h2⟩
theorem raw1 {x : Nat} (h : x < 18446744073709551616) : Sx.Reps 0 Sx.MM.none [.raw true x] (#[Value.float .f64 x] : Array Value).toList := by
  simp only [Sx.Reps, Sx.Rep]; exact ⟨_, _, rfl, ⟨rfl, h⟩, rfl⟩
/-- finite? -/
noncomputable def finS : List Sx.AV → Sx.M Sx.AV
  | [.raw s n] => Sx.M.ret (Sx.cmpB s (Sx.finD n))
  | [.flt s n] => Sx.M.ret (Sx.cmpB s (Sx.finD n))
  | _ => Sx.M.no
theorem finS_tch : ∀ args, Sx.Tch (finS args) := by
  intro args; unfold finS; split
  · exact Sx.Tch.ret _
  · exact Sx.Tch.ret _
  · exact Sx.Tch.no
theorem fin_road (n : Nat) (h : n < 18446744073709551616) : ∃ path lv, Sx.PureP lv (call0 43 [.raw true n] (Sx.G.on path)) ∧ lv.low 0 = true ∧ ∀ c, (∀ N μ, Sx.Rep N μ lv c) → c = .bool (Sx.finD n) := by
  have e := Sx.andNot63 h
  have hm : n % 9223372036854775808 < 18446744073709551616 := by omega
  have key : Sx.fgt (Sx.cn (Int.toNat (Sx.bitsV .andNot .u64 (n : Int) 9223372036854775808))) (Sx.cn 9218868437227405311) = (!Sx.isnan n && !Sx.finD n) := by
    rw [e]; exact Sx.fin_gt h
  have b0 : 0 ≤ Sx.bitsV .andNot .u64 (n : Int) 9223372036854775808 := by rw [e]; omega
  have b1 : Sx.bitsV .andNot .u64 (n : Int) 9223372036854775808 < 18446744073709551616 := by rw [e]; omega
  cases hf : Sx.finD n with
  | true =>
    have hn := Sx.finD_notnan hf
    refine ⟨_, _, fin_0 n b0 b1 (by rw [key, hf, hn]; rfl), rfl, fun c hc => ?_⟩
    have := hc 0 Sx.MM.none
    simp only [Sx.Rep] at this
    rw [this, Sx.feq_self h, hn]; rfl
  | false =>
    cases hn : Sx.isnan n with
    | true =>
      refine ⟨_, _, fin_0 n b0 b1 (by rw [key, hf, hn]; rfl), rfl, fun c hc => ?_⟩
      have := hc 0 Sx.MM.none
      simp only [Sx.Rep] at this
      rw [this, Sx.feq_self h, hn]; rfl
    | false =>
      refine ⟨_, _, fin_1 n b0 b1 (by rw [key, hf, hn]; rfl), rfl, fun c hc => ?_⟩
      have := hc 0 Sx.MM.none
      simpa only [Sx.Rep] using this
theorem rfin_road (n : Nat) (h : n < 18446744073709551616) : ∃ path lv, Sx.PureP lv (call0 46 [.raw true n] (Sx.G.on path)) ∧ lv.low 0 = true ∧ ∀ c, (∀ N μ, Sx.Rep N μ lv c) → c = .bool (Sx.finD n) := by
  refine ⟨_, _, rfin_0 n, rfl, fun c hc => ?_⟩
  have := hc 0 Sx.MM.none
  simp only [Sx.Rep] at this
  rw [this, Sx.fin_sub h]
theorem finS_of {f : Nat} (road : ∀ n, n < 18446744073709551616 → ∃ path lv, Sx.PureP lv (call0 f [.raw true n] (Sx.G.on path)) ∧ lv.low 0 = true ∧ ∀ c, (∀ N μ, Sx.Rep N μ lv c) → c = .bool (Sx.finD n)) :
    ∀ args v g g', finS args g = .done v g' → Sx.CallIs Try.prog f args v g g' := by
  intro args v g g' h
  unfold finS at h
  split at h
  · rename_i s n
    obtain ⟨rfl, rfl⟩ := Sx.ret_done h
    refine Sx.scal sound0 fun μ cargs ha => ?_
    obtain ⟨rfl, hn⟩ := one_raw ha
    obtain ⟨path, lv, h1, h2, h3⟩ := road n hn
    exact ⟨[.raw true n], path, lv, raw1 hn, h1, h2, fun c hc => Sx.Rep_cmpB.2 (h3 c hc)⟩
  · rename_i s n
    obtain ⟨rfl, rfl⟩ := Sx.ret_done h
    refine Sx.scal sound0 fun μ cargs ha => ?_
    obtain ⟨b, rfl, rfl, hb⟩ := one_flt ha
    obtain ⟨path, lv, h1, h2, h3⟩ := road b hb
    exact ⟨[.raw true b], path, lv, raw1 hb, h1, h2, fun c hc => Sx.Rep_cmpB.2 (by rw [finD_cn hb]; exact h3 c hc)⟩
  · exact (Sx.no_done h).elim
theorem fin43_ok : ∀ args v g g', finS args g = .done v g' → Sx.CallIs Try.prog 43 args v g g' := finS_of fin_road
theorem fin46_ok : ∀ args v g g', finS args g = .done v g' → Sx.CallIs Try.prog 46 args v g g' := finS_of rfin_road
/-- real.Place: of no NaN -/
noncomputable def placeS : List Sx.AV → Sx.M Sx.AV
  | [.raw s n] => (Sx.M.ck s (Sx.isnan n = false)).andThen fun _ => Sx.M.ret (.tup [.int s .i64 (Sx.rk n), .bool true])
  | [.flt s n] => (Sx.M.ck s (Sx.isnan n = false)).andThen fun _ => Sx.M.ret (.tup [.int s .i64 (Sx.rk n), .bool true])
  | _ => Sx.M.no
theorem placeS_tch : ∀ args, Sx.Tch (placeS args) := by
  intro args; unfold placeS; split
  · exact (Sx.Tch.ck _ _).andThen fun _ => Sx.Tch.ret _
  · exact (Sx.Tch.ck _ _).andThen fun _ => Sx.Tch.ret _
  · exact Sx.Tch.no
theorem rk_neg {n : Nat} (h : n < 18446744073709551616) : (0 : Int) - ((n % 9223372036854775808 : Nat) : Int) = Sx.rk n ∨ ¬ 9223372036854775808 ≤ n := by
  unfold Sx.rk
  by_cases h1 : 9223372036854775808 ≤ n
  · left; rw [if_pos h1]; omega
  · exact .inr h1
theorem place_road (n : Nat) (h : n < 18446744073709551616) (hn : Sx.isnan n = false) : ∃ path lv, Sx.PureP lv (call0 24 [.raw true n] (Sx.G.on path)) ∧ lv.low 0 = true ∧ ∀ c, (∀ N μ, Sx.Rep N μ lv c) → ∀ N μ s, Sx.Rep N μ (.tup [.int s .i64 (Sx.rk n), .bool true]) c := by
  have e := Sx.andNot63 h
  have hm : n % 9223372036854775808 < 9223372036854775808 := by omega
  have c0 : (!Sx.feq (Sx.cn n) (Sx.cn n)) = false := by rw [Sx.feq_self h, hn]; rfl
  have sh := Sx.shr63 h
  by_cases h1 : 9223372036854775808 ≤ n
  · refine ⟨_, _, place_1 n c0 (by rw [e]; omega) (by rw [e]; omega) (by decide) (by rw [sh]; exact decide_eq_true h1) (by rw [e]; omega) (by rw [e]; omega), rfl, fun c hc N μ s => ?_⟩
    have := hc N μ
    rw [e, (rk_neg h).resolve_right (fun h => h h1)] at this
    exact this
  · refine ⟨_, _, place_2 n c0 (by rw [e]; omega) (by rw [e]; omega) (by decide) (by rw [sh]; exact decide_eq_false h1), rfl, fun c hc N μ s => ?_⟩
    have := hc N μ
    have e2 : ((n % 9223372036854775808 : Nat) : Int) = Sx.rk n := by unfold Sx.rk; rw [if_neg h1]; omega
    rw [e, e2] at this
    exact this
theorem place24_ok : ∀ args v g g', placeS args g = .done v g' → Sx.CallIs Try.prog 24 args v g g' := by
  intro args v g g' h
  unfold placeS at h
  split at h
  · rename_i s n
    obtain ⟨_, g1, a1, h1⟩ := Sx.done_of h
    obtain ⟨rfl, rfl⟩ := Sx.ret_done h1
    refine Sx.scalK sound0 (Sx.ck_done a1) fun hp μ cargs ha => ?_
    obtain ⟨rfl, hn⟩ := one_raw ha
    obtain ⟨path, lv, h1, h2, h3⟩ := place_road n hn hp
    exact ⟨[.raw true n], path, lv, raw1 hn, h1, h2, fun c hc => h3 c hc _ _ _⟩
  · rename_i s n
    obtain ⟨_, g1, a1, h1⟩ := Sx.done_of h
    obtain ⟨rfl, rfl⟩ := Sx.ret_done h1
    refine Sx.scalK sound0 (Sx.ck_done a1) fun hp μ cargs ha => ?_
    obtain ⟨b, rfl, rfl, hb⟩ := one_flt ha
    rw [Sx.isnan_cn] at hp
    obtain ⟨path, lv, h1, h2, h3⟩ := place_road b hb hp
    exact ⟨[.raw true b], path, lv, raw1 hb, h1, h2, fun c hc => by rw [Sx.cn_of_not hp]; exact h3 c hc _ _ _⟩
  · exact (Sx.no_done h).elim
/-- the document's place -/
noncomputable def rplaceS : List Sx.AV → Sx.M Sx.AV
  | [.raw s n] => (Sx.M.ck s (Sx.isnan n = false)).andThen fun _ => Sx.M.ret (.int s .i64 (Sx.rk n))
  | [.flt s n] => (Sx.M.ck s (Sx.isnan n = false)).andThen fun _ => Sx.M.ret (.int s .i64 (Sx.rk n))
  | _ => Sx.M.no
theorem rplaceS_tch : ∀ args, Sx.Tch (rplaceS args) := by
  intro args; unfold rplaceS; split
  · exact (Sx.Tch.ck _ _).andThen fun _ => Sx.Tch.ret _
  · exact (Sx.Tch.ck _ _).andThen fun _ => Sx.Tch.ret _
  · exact Sx.Tch.no
theorem rplace_road (n : Nat) (h : n < 18446744073709551616) (hn : Sx.isnan n = false) : ∃ path lv, Sx.PureP lv (call0 66 [.raw true n] (Sx.G.on path)) ∧ lv.low 0 = true ∧ ∀ c, (∀ N μ, Sx.Rep N μ lv c) → ∀ N μ s, Sx.Rep N μ (.int s .i64 (Sx.rk n)) c := by
  have e := Sx.andNot63 h
  have hm : n % 9223372036854775808 < 9223372036854775808 := by omega
  have fz := Sx.flt_zero h hn
  have e1 : ((Int.toNat (Sx.bitsV .andNot .u64 (n : Int) 9223372036854775808) : Nat) : Int) = ((n % 9223372036854775808 : Nat) : Int) := by rw [e]; omega
  by_cases h1 : Sx.rk n < 0
  · have h2 : 9223372036854775808 ≤ n := by
      unfold Sx.rk at h1; split at h1 <;> omega
    refine ⟨_, _, rplace_0 n (by rw [e]; omega) (by rw [e]; omega) (by rw [e1]; omega) (by rw [e1]; omega) (by rw [fz]; exact decide_eq_true h1) (by rw [e1]; omega) (by rw [e1]; omega), rfl, fun c hc N μ s => ?_⟩
    have := hc N μ
    rw [e1, (rk_neg h).resolve_right (fun h => h h2)] at this
    exact this
  · refine ⟨_, _, rplace_1 n (by rw [e]; omega) (by rw [e]; omega) (by rw [e1]; omega) (by rw [e1]; omega) (by rw [fz]; exact decide_eq_false h1), rfl, fun c hc N μ s => ?_⟩
    have := hc N μ
    have e2 : ((n % 9223372036854775808 : Nat) : Int) = Sx.rk n := by unfold Sx.rk at h1 ⊢; split at h1 <;> split <;> omega
    rw [e1, e2] at this
    exact this
theorem rplace66_ok : ∀ args v g g', rplaceS args g = .done v g' → Sx.CallIs Try.prog 66 args v g g' := by
  intro args v g g' h
  unfold rplaceS at h
  split at h
  · rename_i s n
    obtain ⟨_, g1, a1, h1⟩ := Sx.done_of h
    obtain ⟨rfl, rfl⟩ := Sx.ret_done h1
    refine Sx.scalK sound0 (Sx.ck_done a1) fun hp μ cargs ha => ?_
    obtain ⟨rfl, hn⟩ := one_raw ha
    obtain ⟨path, lv, h1, h2, h3⟩ := rplace_road n hn hp
    exact ⟨[.raw true n], path, lv, raw1 hn, h1, h2, fun c hc => h3 c hc _ _ _⟩
  · rename_i s n
    obtain ⟨_, g1, a1, h1⟩ := Sx.done_of h
    obtain ⟨rfl, rfl⟩ := Sx.ret_done h1
    refine Sx.scalK sound0 (Sx.ck_done a1) fun hp μ cargs ha => ?_
    obtain ⟨b, rfl, rfl, hb⟩ := one_flt ha
    rw [Sx.isnan_cn] at hp
    obtain ⟨path, lv, h1, h2, h3⟩ := rplace_road b hb hp
    exact ⟨[.raw true b], path, lv, raw1 hb, h1, h2, fun c hc => by rw [Sx.cn_of_not hp]; exact h3 c hc _ _ _⟩
  · exact (Sx.no_done h).elim
/-- the float at a place, plus infinity's at the most -/
noncomputable def atS : List Sx.AV → Sx.M Sx.AV
  | [.int s .i64 p] => (Sx.M.ck s (-9218868437227405312 ≤ p ∧ p ≤ 9218868437227405312)).andThen fun _ => Sx.M.ret (.tup [.raw s (Sx.wd p), .bool true])
  | _ => Sx.M.no
theorem atS_tch : ∀ args, Sx.Tch (atS args) := by
  intro args; unfold atS; split
  · exact (Sx.Tch.ck _ _).andThen fun _ => Sx.Tch.ret _
  · exact Sx.Tch.no
theorem one_int {N : Nat} {μ : Sx.MM} {s : Bool} {k : IntKind} {x : Int} {cargs : Array Value} (h : Sx.Reps N μ [.int s k x] cargs.toList) : cargs = #[.int k x] := by
  obtain ⟨c, rfl, hx⟩ := h.one
  simp only [Sx.Rep] at hx
  rw [hx]
theorem int1 {k : IntKind} {x : Int} : Sx.Reps 0 Sx.MM.none [.int true k x] (#[Value.int k x] : Array Value).toList := by
  simp only [Sx.Reps, Sx.Rep]; exact ⟨_, _, rfl, rfl, rfl⟩
theorem at_road (p : Int) (h : -9218868437227405312 ≤ p) (h2 : p ≤ 9218868437227405312) : ∃ path lv, Sx.PureP lv (call0 32 [.int true .i64 p] (Sx.G.on path)) ∧ lv.low 0 = true ∧ ∀ c, (∀ N μ, Sx.Rep N μ lv c) → ∀ N μ s, Sx.Rep N μ (.tup [.raw s (Sx.wd p), .bool true]) c := by
  have c0 : decide (9218868437227405312 < p) = false := decide_eq_false (by omega)
  have c1 : decide (p < -9218868437227405312) = false := decide_eq_false (by omega)
  by_cases hp : p < 0
  · have w : IntKind.u64.wrap (0 - p) = 0 - p := by
      obtain ⟨m, hm⟩ := Int.eq_ofNat_of_zero_le (show 0 ≤ 0 - p by omega)
      rw [hm]; exact Sx.wrap_u64 (by omega)
    have o : Sx.bitsV .or .u64 (IntKind.u64.wrap (0 - p)) 9223372036854775808 = 9223372036854775808 + (0 - p) := by
      rw [w]; exact Sx.or63 (by omega) (by omega)
    refine ⟨_, _, at_2 p c0 c1 (decide_eq_true hp) (by omega) (by omega) (by rw [o]; omega) (by rw [o]; omega), rfl, fun c hc N μ s => ?_⟩
    have := hc N μ
    have e : (Sx.bitsV .or .u64 (IntKind.u64.wrap (0 - p)) 9223372036854775808).toNat = Sx.wd p := by
      rw [o]; unfold Sx.wd; rw [if_pos hp]; omega
    rw [e] at this
    exact this
  · have w : IntKind.u64.wrap p = p := by
      obtain ⟨m, hm⟩ := Int.eq_ofNat_of_zero_le (show 0 ≤ p by omega)
      rw [hm]; exact Sx.wrap_u64 (by omega)
    refine ⟨_, _, at_3 p c0 c1 (decide_eq_false hp) (by rw [w]; omega) (by rw [w]; omega), rfl, fun c hc N μ s => ?_⟩
    have := hc N μ
    have e : (IntKind.u64.wrap p).toNat = Sx.wd p := by rw [w]; unfold Sx.wd; rw [if_neg hp]
    rw [e] at this
    exact this
theorem at32_ok : ∀ args v g g', atS args g = .done v g' → Sx.CallIs Try.prog 32 args v g g' := by
  intro args v g g' h
  unfold atS at h
  split at h
  · rename_i s p
    obtain ⟨_, g1, a1, h1⟩ := Sx.done_of h
    obtain ⟨rfl, rfl⟩ := Sx.ret_done h1
    refine Sx.scalK sound0 (Sx.ck_done a1) fun hp μ cargs ha => ?_
    obtain rfl := one_int ha
    obtain ⟨path, lv, h1, h2, h3⟩ := at_road p hp.1 hp.2
    exact ⟨[.int true .i64 p], path, lv, int1, h1, h2, fun c hc => h3 c hc _ _ _⟩
  · exact (Sx.no_done h).elim
/-- the document's float at a place -/
noncomputable def ratS : List Sx.AV → Sx.M Sx.AV
  | [.int s .i64 p] => (Sx.M.ck s (-9218868437227405312 ≤ p ∧ p ≤ 9218868437227405312)).andThen fun _ => Sx.M.ret (.flt s (Sx.cn (Sx.wd p)))
  | _ => Sx.M.no
theorem ratS_tch : ∀ args, Sx.Tch (ratS args) := by
  intro args; unfold ratS; split
  · exact (Sx.Tch.ck _ _).andThen fun _ => Sx.Tch.ret _
  · exact Sx.Tch.no
theorem rat_road (p : Int) (h : -9218868437227405312 ≤ p) (h2 : p ≤ 9218868437227405312) : ∃ path lv, Sx.PureP lv (call0 67 [.int true .i64 p] (Sx.G.on path)) ∧ lv.low 0 = true ∧ ∀ c, (∀ N μ, Sx.Rep N μ lv c) → ∀ N μ s, Sx.Rep N μ (.flt s (Sx.cn (Sx.wd p))) c := by
  by_cases hp : p < 0
  · have w : IntKind.u64.wrap (0 - p) = 0 - p := by
      obtain ⟨m, hm⟩ := Int.eq_ofNat_of_zero_le (show 0 ≤ 0 - p by omega)
      rw [hm]; exact Sx.wrap_u64 (by omega)
    refine ⟨_, _, rat_0 p (decide_eq_true hp) (by omega) (by omega) (by rw [w]; omega) (by rw [w]; omega), rfl, fun c hc N μ s => ?_⟩
    have := hc N μ
    have e : Sx.fneg (Sx.cn (IntKind.u64.wrap (0 - p)).toNat) = Sx.cn (Sx.wd p) := by
      rw [w]
      have hlt : (0 - p).toNat < 9223372036854775808 := by omega
      have nn : Sx.isnan (0 - p).toNat = false := by unfold Sx.isnan; exact decide_eq_false (by omega)
      rw [Sx.cn_of_not nn]
      unfold Sx.fneg
      congr 1
      have x := Nat.two_pow_add_eq_or_of_lt (i := 63) (b := (0 - p).toNat) (by omega) 1
      rw [Sx.neg_word hlt]
      unfold Sx.wd; rw [if_pos hp]; congr 2; omega
    rw [e] at this
    simpa only [Sx.Rep] using this
  · have w : IntKind.u64.wrap p = p := by
      obtain ⟨m, hm⟩ := Int.eq_ofNat_of_zero_le (show 0 ≤ p by omega)
      rw [hm]; exact Sx.wrap_u64 (by omega)
    refine ⟨_, _, rat_1 p (decide_eq_false hp) (by rw [w]; omega) (by rw [w]; omega), rfl, fun c hc N μ s => ?_⟩
    have := hc N μ
    have e : (IntKind.u64.wrap p).toNat = Sx.wd p := by rw [w]; unfold Sx.wd; rw [if_neg hp]
    rw [e] at this
    simp only [Sx.Rep] at this ⊢
    exact ⟨_, this.1, rfl, this.2⟩
theorem rat67_ok : ∀ args v g g', ratS args g = .done v g' → Sx.CallIs Try.prog 67 args v g g' := by
  intro args v g g' h
  unfold ratS at h
  split at h
  · rename_i s p
    obtain ⟨_, g1, a1, h1⟩ := Sx.done_of h
    obtain ⟨rfl, rfl⟩ := Sx.ret_done h1
    refine Sx.scalK sound0 (Sx.ck_done a1) fun hp μ cargs ha => ?_
    obtain rfl := one_int ha
    obtain ⟨path, lv, h1, h2, h3⟩ := rat_road p hp.1 hp.2
    exact ⟨[.int true .i64 p], path, lv, int1, h1, h2, fun c hc => h3 c hc _ _ _⟩
  · exact (Sx.no_done h).elim
/-- SameReal -/
noncomputable def sameS : List Sx.AV → Sx.M Sx.AV := fun l =>
  match l.map Sx.AV.fl1 with
  | [.flt s x, .flt s' y] => Sx.M.ret (Sx.cmpB (s || s') (Nat.beq x y))
  | _ => Sx.M.no
theorem sameS_tch : ∀ args, Sx.Tch (sameS args) := by
  intro args; unfold sameS; split
  · exact Sx.Tch.ret _
  · exact Sx.Tch.no
theorem same_road (n m : Nat) (hn : n < 18446744073709551616) (hm : m < 18446744073709551616) : ∃ path lv, Sx.PureP lv (call0 13 [.raw true n, .raw true m] (Sx.G.on path)) ∧ lv.low 0 = true ∧ ∀ c, (∀ N μ, Sx.Rep N μ lv c) → c = .bool (Nat.beq (Sx.cn n) (Sx.cn m)) := by
  have f1 := Sx.feq_self hn
  have f2 := Sx.feq_self hm
  by_cases h : n = m
  · refine ⟨_, _, same_0 n m (decide_eq_true (by rw [h])), rfl, fun c hc => ?_⟩
    have := hc 0 Sx.MM.none
    simp only [Sx.Rep] at this
    rw [this, h, Nat.beq_refl]
  · have c0 : decide ((n : Int) = (m : Int)) = false := decide_eq_false (by omega)
    cases h1 : Sx.isnan n with
    | true =>
      refine ⟨_, _, same_1 n m c0 (by rw [f1, h1]; rfl), rfl, fun c hc => ?_⟩
      have := hc 0 Sx.MM.none
      simp only [Sx.Rep] at this
      rw [this, f2, Sx.cn_of_nan h1]
      cases h2 : Sx.isnan m with
      | true => rw [Sx.cn_of_nan h2, Nat.beq_refl]; rfl
      | false =>
        rw [Sx.cn_of_not h2]
        have : Nat.beq Sx.qn m = false := by
          cases hb : Nat.beq Sx.qn m with
          | false => rfl
          | true => rw [← Nat.eq_of_beq_eq_true hb, Sx.isnan_qn] at h2; cases h2
        rw [this]; rfl
    | false =>
      refine ⟨_, _, same_2 n m c0 (by rw [f1, h1]; rfl), rfl, fun c hc => ?_⟩
      have := hc 0 Sx.MM.none
      simp only [Sx.Rep] at this
      rw [this, Sx.cn_of_not h1]
      have : Nat.beq n (Sx.cn m) = false := by
        cases hb : Nat.beq n (Sx.cn m) with
        | false => rfl
        | true =>
          have e := Nat.eq_of_beq_eq_true hb
          cases h2 : Sx.isnan m with
          | true => rw [Sx.cn_of_nan h2] at e; rw [e, Sx.isnan_qn] at h1; cases h1
          | false => rw [Sx.cn_of_not h2] at e; exact absurd e h
      rw [this]
theorem two_flt {N : Nat} {μ : Sx.MM} {s s' : Bool} {x y : Nat} {cs : List Value} (h : Sx.Reps N μ [.flt s x, .flt s' y] cs) : ∃ a b, cs = [.float .f64 a, .float .f64 b] ∧ Sx.cn a = x ∧ a < 18446744073709551616 ∧ Sx.cn b = y ∧ b < 18446744073709551616 := by
  simp only [Sx.Reps, Sx.Rep] at h
  obtain ⟨c, r, rfl, ⟨a, rfl, h1, h2⟩, d, r', rfl, ⟨b, rfl, h3, h4⟩, rfl⟩ := h
  exact ⟨a, b, rfl, h1, h2, h3, h4⟩
theorem same13_ok : ∀ args v g g', sameS args g = .done v g' → Sx.CallIs Try.prog 13 args v g g' := by
  intro args v g g' h
  unfold sameS at h
  generalize he : args.map Sx.AV.fl1 = l at h
  split at h
  · rename_i s x s' y
    obtain ⟨rfl, rfl⟩ := Sx.ret_done h
    refine Sx.scal sound0 fun μ cargs ha => ?_
    have ha := ha.fl1
    rw [he] at ha
    obtain ⟨a, b, hc, rfl, h2, rfl, h4⟩ := two_flt ha
    obtain ⟨path, lv, r1, r2, r3⟩ := same_road a b h2 h4
    refine ⟨[.raw true a, .raw true b], path, lv, ?_, r1, r2, fun c hc => Sx.Rep_cmpB.2 (r3 c hc)⟩
    rw [hc]
    simp only [Sx.Reps, Sx.Rep]
    exact ⟨_, _, rfl, ⟨rfl, h2⟩, _, _, rfl, ⟨rfl, h4⟩, rfl⟩
  · exact (Sx.no_done h).elim
noncomputable def gam1 : Sx.Known := fun f => bif Nat.beq f 11 then some Sx.ofBits else (bif Nat.beq f 48 then some Sx.toBits else (bif Nat.beq f 43 then some finS else (bif Nat.beq f 46 then some finS else (bif Nat.beq f 24 then some placeS else (bif Nat.beq f 66 then some rplaceS else (bif Nat.beq f 32 then some atS else (bif Nat.beq f 67 then some ratS else (bif Nat.beq f 13 then some sameS else (none)))))))))
theorem gam1_ok : Sx.KnownOk Try.prog gam1 := by
  intro f s h
  unfold gam1 at h
  cases h1 : Nat.beq f 11 with
  | true =>
    rw [h1] at h
    cases h
    cases Nat.eq_of_beq_eq_true h1
    exact (Sx.ofBits_is Try.prog).callIs Try.func11 (by kernel_rfl) (by kernel_rfl) (by kernel_rfl) (by kernel_rfl)
  | false =>
    rw [h1, cond_false] at h
    clear h1
    cases h1 : Nat.beq f 48 with
    | true =>
      rw [h1] at h
      cases h
      cases Nat.eq_of_beq_eq_true h1
      exact (Sx.toBits_is Try.prog).callIs Try.func48 (by kernel_rfl) (by kernel_rfl) (by kernel_rfl) (by kernel_rfl)
    | false =>
      rw [h1, cond_false] at h
      clear h1
      cases h1 : Nat.beq f 43 with
      | true =>
        rw [h1] at h
        cases h
        cases Nat.eq_of_beq_eq_true h1
        exact fin43_ok
      | false =>
        rw [h1, cond_false] at h
        clear h1
        cases h1 : Nat.beq f 46 with
        | true =>
          rw [h1] at h
          cases h
          cases Nat.eq_of_beq_eq_true h1
          exact fin46_ok
        | false =>
          rw [h1, cond_false] at h
          clear h1
          cases h1 : Nat.beq f 24 with
          | true =>
            rw [h1] at h
            cases h
            cases Nat.eq_of_beq_eq_true h1
            exact place24_ok
          | false =>
            rw [h1, cond_false] at h
            clear h1
            cases h1 : Nat.beq f 66 with
            | true =>
              rw [h1] at h
              cases h
              cases Nat.eq_of_beq_eq_true h1
              exact rplace66_ok
            | false =>
              rw [h1, cond_false] at h
              clear h1
              cases h1 : Nat.beq f 32 with
              | true =>
                rw [h1] at h
                cases h
                cases Nat.eq_of_beq_eq_true h1
                exact at32_ok
              | false =>
                rw [h1, cond_false] at h
                clear h1
                cases h1 : Nat.beq f 67 with
                | true =>
                  rw [h1] at h
                  cases h
                  cases Nat.eq_of_beq_eq_true h1
                  exact rat67_ok
                | false =>
                  rw [h1, cond_false] at h
                  clear h1
                  cases h1 : Nat.beq f 13 with
                  | true =>
                    rw [h1] at h
                    cases h
                    cases Nat.eq_of_beq_eq_true h1
                    exact same13_ok
                  | false =>
                    rw [h1, cond_false] at h
                    clear h1
                    cases h
theorem gam1_tch : Sx.KnownT gam1 := by
  intro f s h
  unfold gam1 at h
  cases h1 : Nat.beq f 11 with
  | true => rw [h1] at h; cases h; exact Sx.Tch.ofBits
  | false =>
    rw [h1, cond_false] at h
    clear h1
    cases h1 : Nat.beq f 48 with
    | true => rw [h1] at h; cases h; exact Sx.Tch.toBits
    | false =>
      rw [h1, cond_false] at h
      clear h1
      cases h1 : Nat.beq f 43 with
      | true => rw [h1] at h; cases h; exact finS_tch
      | false =>
        rw [h1, cond_false] at h
        clear h1
        cases h1 : Nat.beq f 46 with
        | true => rw [h1] at h; cases h; exact finS_tch
        | false =>
          rw [h1, cond_false] at h
          clear h1
          cases h1 : Nat.beq f 24 with
          | true => rw [h1] at h; cases h; exact placeS_tch
          | false =>
            rw [h1, cond_false] at h
            clear h1
            cases h1 : Nat.beq f 66 with
            | true => rw [h1] at h; cases h; exact rplaceS_tch
            | false =>
              rw [h1, cond_false] at h
              clear h1
              cases h1 : Nat.beq f 32 with
              | true => rw [h1] at h; cases h; exact atS_tch
              | false =>
                rw [h1, cond_false] at h
                clear h1
                cases h1 : Nat.beq f 67 with
                | true => rw [h1] at h; cases h; exact ratS_tch
                | false =>
                  rw [h1, cond_false] at h
                  clear h1
                  cases h1 : Nat.beq f 13 with
                  | true => rw [h1] at h; cases h; exact sameS_tch
                  | false =>
                    rw [h1, cond_false] at h
                    clear h1
                    cases h
noncomputable def call1 : Sx.Calls' := Sx.runA Try.prog gam1 (Sx.regionA Try.prog) 1000 50
theorem call1_ok : Sx.CallOk Try.prog call1 := Sx.engine gam1_ok gam1_tch (by kernel_rfl) (by kernel_rfl) 1000 50

/-- the examples hold -/
noncomputable def awakeS : List Sx.AV → Sx.M Sx.AV
  | [] => Sx.M.ret (.bool true)
  | _ => Sx.M.no
theorem awakeS_tch : ∀ args, Sx.Tch (awakeS args) := by
  intro args; unfold awakeS; split
  · exact Sx.Tch.ret _
  · exact Sx.Tch.no
theorem awake_road : Sx.PureP (.bool true) (call1 23 [] (Sx.G.on [])) := by
  have e : Sx.pureP (.bool true) (call1 23 [] (Sx.G.on [])) = ((Sx.AV.bool true = Sx.AV.bool true) ∧ True) := by kernel_rfl
  exact ⟨by rw [e]; exact ⟨rfl, trivial⟩⟩
theorem awakeS_ok : ∀ args v g g', awakeS args g = .done v g' → Sx.CallIs Try.prog 23 args v g g' := by
  intro args v g g' h
  unfold awakeS at h
  split at h
  · obtain ⟨rfl, rfl⟩ := Sx.ret_done h
    refine Sx.scal call1_ok fun μ cargs ha => ?_
    refine ⟨[], [], _, ?_, awake_road, rfl, fun c hc => hc _ _⟩
    simpa only [Sx.Reps] using ha
  · exact (Sx.no_done h).elim
noncomputable def gam2 : Sx.Known := fun f => bif Nat.beq f 11 then some Sx.ofBits else (bif Nat.beq f 48 then some Sx.toBits else (bif Nat.beq f 43 then some finS else (bif Nat.beq f 46 then some finS else (bif Nat.beq f 24 then some placeS else (bif Nat.beq f 66 then some rplaceS else (bif Nat.beq f 32 then some atS else (bif Nat.beq f 67 then some ratS else (bif Nat.beq f 13 then some sameS else (bif Nat.beq f 23 then some awakeS else (none))))))))))
theorem gam2_ok : Sx.KnownOk Try.prog gam2 := by
  intro f s h
  unfold gam2 at h
  cases h1 : Nat.beq f 11 with
  | true =>
    rw [h1] at h
    cases h
    cases Nat.eq_of_beq_eq_true h1
    exact (Sx.ofBits_is Try.prog).callIs Try.func11 (by kernel_rfl) (by kernel_rfl) (by kernel_rfl) (by kernel_rfl)
  | false =>
    rw [h1, cond_false] at h
    clear h1
    cases h1 : Nat.beq f 48 with
    | true =>
      rw [h1] at h
      cases h
      cases Nat.eq_of_beq_eq_true h1
      exact (Sx.toBits_is Try.prog).callIs Try.func48 (by kernel_rfl) (by kernel_rfl) (by kernel_rfl) (by kernel_rfl)
    | false =>
      rw [h1, cond_false] at h
      clear h1
      cases h1 : Nat.beq f 43 with
      | true =>
        rw [h1] at h
        cases h
        cases Nat.eq_of_beq_eq_true h1
        exact fin43_ok
      | false =>
        rw [h1, cond_false] at h
        clear h1
        cases h1 : Nat.beq f 46 with
        | true =>
          rw [h1] at h
          cases h
          cases Nat.eq_of_beq_eq_true h1
          exact fin46_ok
        | false =>
          rw [h1, cond_false] at h
          clear h1
          cases h1 : Nat.beq f 24 with
          | true =>
            rw [h1] at h
            cases h
            cases Nat.eq_of_beq_eq_true h1
            exact place24_ok
          | false =>
            rw [h1, cond_false] at h
            clear h1
            cases h1 : Nat.beq f 66 with
            | true =>
              rw [h1] at h
              cases h
              cases Nat.eq_of_beq_eq_true h1
              exact rplace66_ok
            | false =>
              rw [h1, cond_false] at h
              clear h1
              cases h1 : Nat.beq f 32 with
              | true =>
                rw [h1] at h
                cases h
                cases Nat.eq_of_beq_eq_true h1
                exact at32_ok
              | false =>
                rw [h1, cond_false] at h
                clear h1
                cases h1 : Nat.beq f 67 with
                | true =>
                  rw [h1] at h
                  cases h
                  cases Nat.eq_of_beq_eq_true h1
                  exact rat67_ok
                | false =>
                  rw [h1, cond_false] at h
                  clear h1
                  cases h1 : Nat.beq f 13 with
                  | true =>
                    rw [h1] at h
                    cases h
                    cases Nat.eq_of_beq_eq_true h1
                    exact same13_ok
                  | false =>
                    rw [h1, cond_false] at h
                    clear h1
                    cases h1 : Nat.beq f 23 with
                    | true =>
                      rw [h1] at h
                      cases h
                      cases Nat.eq_of_beq_eq_true h1
                      exact awakeS_ok
                    | false =>
                      rw [h1, cond_false] at h
                      clear h1
                      cases h
theorem gam2_tch : Sx.KnownT gam2 := by
  intro f s h
  unfold gam2 at h
  cases h1 : Nat.beq f 11 with
  | true => rw [h1] at h; cases h; exact Sx.Tch.ofBits
  | false =>
    rw [h1, cond_false] at h
    clear h1
    cases h1 : Nat.beq f 48 with
    | true => rw [h1] at h; cases h; exact Sx.Tch.toBits
    | false =>
      rw [h1, cond_false] at h
      clear h1
      cases h1 : Nat.beq f 43 with
      | true => rw [h1] at h; cases h; exact finS_tch
      | false =>
        rw [h1, cond_false] at h
        clear h1
        cases h1 : Nat.beq f 46 with
        | true => rw [h1] at h; cases h; exact finS_tch
        | false =>
          rw [h1, cond_false] at h
          clear h1
          cases h1 : Nat.beq f 24 with
          | true => rw [h1] at h; cases h; exact placeS_tch
          | false =>
            rw [h1, cond_false] at h
            clear h1
            cases h1 : Nat.beq f 66 with
            | true => rw [h1] at h; cases h; exact rplaceS_tch
            | false =>
              rw [h1, cond_false] at h
              clear h1
              cases h1 : Nat.beq f 32 with
              | true => rw [h1] at h; cases h; exact atS_tch
              | false =>
                rw [h1, cond_false] at h
                clear h1
                cases h1 : Nat.beq f 67 with
                | true => rw [h1] at h; cases h; exact ratS_tch
                | false =>
                  rw [h1, cond_false] at h
                  clear h1
                  cases h1 : Nat.beq f 13 with
                  | true => rw [h1] at h; cases h; exact sameS_tch
                  | false =>
                    rw [h1, cond_false] at h
                    clear h1
                    cases h1 : Nat.beq f 23 with
                    | true => rw [h1] at h; cases h; exact awakeS_tch
                    | false =>
                      rw [h1, cond_false] at h
                      clear h1
                      cases h
noncomputable def call2 : Sx.Calls' := Sx.runA Try.prog gam2 (Sx.regionA Try.prog) 1000 50
theorem call2_ok : Sx.CallOk Try.prog call2 := Sx.engine gam2_ok gam2_tch (by kernel_rfl) (by kernel_rfl) 1000 50

theorem half_2 (a b : Int) (c0 : (0 : Int) ≤ a) (c1 : a < (18446744073709551616 : Int)) (c2 : (0 : Int) ≤ b) (c3 : b < (18446744073709551616 : Int)) (c4 : Go.Sx.flt (Go.Sx.cn (Int.toNat b)) (Go.Sx.cn (Int.toNat a)) = Bool.true) (c5 : (!Go.Sx.finD (Int.toNat b)) = Bool.true) (c6 : (!Go.Sx.finD (Int.toNat a)) = Bool.true) (c7 : Go.Sx.feq (Go.Sx.fsub (Go.Sx.cn (Int.toNat b)) (Go.Sx.cn (Int.toNat b))) (Go.Sx.cn (0 : Nat)) = Bool.false) : Go.Sx.PureP (Go.Sx.AV.bool Bool.true) (call2 5 [.int true .u64 a, .int true .u64 b] (Go.Sx.G.on [true, true, true, false])) := by
  have e : Go.Sx.pureP (Go.Sx.AV.bool Bool.true) (call2 5 [.int true .u64 a, .int true .u64 b] (Go.Sx.G.on [true, true, true, false])) = ((Go.Sx.AV.bool Bool.true) = (Go.Sx.AV.bool Bool.true) ∧ ((((((True ∧ (((0 : Int) ≤ a) ∧ (a < (18446744073709551616 : Int)))) ∧ (((0 : Int) ≤ b) ∧ (b < (18446744073709551616 : Int)))) ∧ (Go.Sx.flt (Go.Sx.cn (Int.toNat b)) (Go.Sx.cn (Int.toNat a)) = Bool.true)) ∧ ((!Go.Sx.finD (Int.toNat b)) = Bool.true)) ∧ ((!Go.Sx.finD (Int.toNat a)) = Bool.true)) ∧ (Go.Sx.feq (Go.Sx.fsub (Go.Sx.cn (Int.toNat b)) (Go.Sx.cn (Int.toNat b))) (Go.Sx.cn (0 : Nat)) = Bool.false))) := by kernel_rfl
  exact ⟨by rw [e]; exact ⟨rfl, ⟨⟨⟨⟨⟨⟨trivial, ⟨c0, c1⟩⟩, ⟨c2, c3⟩⟩, c4⟩, c5⟩, c6⟩, c7⟩⟩⟩
theorem half_5 (a b : Int) (c0 : (0 : Int) ≤ a) (c1 : a < (18446744073709551616 : Int)) (c2 : (0 : Int) ≤ b) (c3 : b < (18446744073709551616 : Int)) (c4 : Go.Sx.flt (Go.Sx.cn (Int.toNat b)) (Go.Sx.cn (Int.toNat a)) = Bool.true) (c5 : (!Go.Sx.finD (Int.toNat b)) = Bool.true) (c6 : (!Go.Sx.finD (Int.toNat a)) = Bool.false) (c7 : (!Go.Sx.finD (Int.toNat b)) = Bool.true) (c8 : Go.Sx.feq (Go.Sx.fsub (Go.Sx.cn (Int.toNat b)) (Go.Sx.cn (Int.toNat b))) (Go.Sx.cn (0 : Nat)) = Bool.false) : Go.Sx.PureP (Go.Sx.AV.bool Bool.true) (call2 5 [.int true .u64 a, .int true .u64 b] (Go.Sx.G.on [true, true, false, true, false])) := by
  have e : Go.Sx.pureP (Go.Sx.AV.bool Bool.true) (call2 5 [.int true .u64 a, .int true .u64 b] (Go.Sx.G.on [true, true, false, true, false])) = ((Go.Sx.AV.bool Bool.true) = (Go.Sx.AV.bool Bool.true) ∧ (((((((True ∧ (((0 : Int) ≤ a) ∧ (a < (18446744073709551616 : Int)))) ∧ (((0 : Int) ≤ b) ∧ (b < (18446744073709551616 : Int)))) ∧ (Go.Sx.flt (Go.Sx.cn (Int.toNat b)) (Go.Sx.cn (Int.toNat a)) = Bool.true)) ∧ ((!Go.Sx.finD (Int.toNat b)) = Bool.true)) ∧ ((!Go.Sx.finD (Int.toNat a)) = Bool.false)) ∧ ((!Go.Sx.finD (Int.toNat b)) = Bool.true)) ∧ (Go.Sx.feq (Go.Sx.fsub (Go.Sx.cn (Int.toNat b)) (Go.Sx.cn (Int.toNat b))) (Go.Sx.cn (0 : Nat)) = Bool.false))) := by kernel_rfl
  exact ⟨by rw [e]; exact ⟨rfl, ⟨⟨⟨⟨⟨⟨⟨trivial, ⟨c0, c1⟩⟩, ⟨c2, c3⟩⟩, c4⟩, c5⟩, c6⟩, c7⟩, c8⟩⟩⟩
theorem half_8 (a b : Int) (c0 : (0 : Int) ≤ a) (c1 : a < (18446744073709551616 : Int)) (c2 : (0 : Int) ≤ b) (c3 : b < (18446744073709551616 : Int)) (c4 : Go.Sx.flt (Go.Sx.cn (Int.toNat b)) (Go.Sx.cn (Int.toNat a)) = Bool.true) (c5 : (!Go.Sx.finD (Int.toNat b)) = Bool.false) (c6 : (!Go.Sx.finD (Int.toNat a)) = Bool.true) (c7 : (!Go.Sx.finD (Int.toNat a)) = Bool.true) (c8 : Go.Sx.feq (Go.Sx.fsub (Go.Sx.cn (Int.toNat b)) (Go.Sx.cn (Int.toNat b))) (Go.Sx.cn (0 : Nat)) = Bool.true) (c9 : (!Decidable.decide ((5 : Int) = (0 : Int)) ==
      Go.Sx.feq (Go.Sx.fsub (Go.Sx.cn (Int.toNat a)) (Go.Sx.cn (Int.toNat a))) (Go.Sx.cn (0 : Nat))) =
  Bool.false) : Go.Sx.PureP (Go.Sx.AV.bool Bool.true) (call2 5 [.int true .u64 a, .int true .u64 b] (Go.Sx.G.on [true, false, true, true, true, false])) := by
  have e : Go.Sx.pureP (Go.Sx.AV.bool Bool.true) (call2 5 [.int true .u64 a, .int true .u64 b] (Go.Sx.G.on [true, false, true, true, true, false])) = ((Go.Sx.AV.bool Bool.true) = (Go.Sx.AV.bool Bool.true) ∧ ((((((((True ∧ (((0 : Int) ≤ a) ∧ (a < (18446744073709551616 : Int)))) ∧ (((0 : Int) ≤ b) ∧ (b < (18446744073709551616 : Int)))) ∧ (Go.Sx.flt (Go.Sx.cn (Int.toNat b)) (Go.Sx.cn (Int.toNat a)) = Bool.true)) ∧ ((!Go.Sx.finD (Int.toNat b)) = Bool.false)) ∧ ((!Go.Sx.finD (Int.toNat a)) = Bool.true)) ∧ ((!Go.Sx.finD (Int.toNat a)) = Bool.true)) ∧ (Go.Sx.feq (Go.Sx.fsub (Go.Sx.cn (Int.toNat b)) (Go.Sx.cn (Int.toNat b))) (Go.Sx.cn (0 : Nat)) = Bool.true)) ∧ ((!Decidable.decide ((5 : Int) = (0 : Int)) ==
      Go.Sx.feq (Go.Sx.fsub (Go.Sx.cn (Int.toNat a)) (Go.Sx.cn (Int.toNat a))) (Go.Sx.cn (0 : Nat))) =
  Bool.false))) := by kernel_rfl
  exact ⟨by rw [e]; exact ⟨rfl, ⟨⟨⟨⟨⟨⟨⟨⟨trivial, ⟨c0, c1⟩⟩, ⟨c2, c3⟩⟩, c4⟩, c5⟩, c6⟩, c7⟩, c8⟩, c9⟩⟩⟩
theorem half_20 (a b : Int) (c0 : (0 : Int) ≤ a) (c1 : a < (18446744073709551616 : Int)) (c2 : (0 : Int) ≤ b) (c3 : b < (18446744073709551616 : Int)) (c4 : Go.Sx.flt (Go.Sx.cn (Int.toNat b)) (Go.Sx.cn (Int.toNat a)) = Bool.true) (c5 : (!Go.Sx.finD (Int.toNat b)) = Bool.false) (c6 : (!Go.Sx.finD (Int.toNat a)) = Bool.false) (c7 : Go.Sx.isnan (Int.toNat b) = Bool.false) (c8 : Go.Sx.isnan (Int.toNat a) = Bool.false) (c9 : (0 : Int) ≤ (1 : Int)) (c10 : (-9223372036854775808 : Int) ≤
  Go.Sx.bitsV Go.BinOp.and Go.IntKind.i64 (Go.Sx.rk (Int.toNat b)) (Go.Sx.rk (Int.toNat a)) +
    Int.fdiv (Go.Sx.bitsV Go.BinOp.xor Go.IntKind.i64 (Go.Sx.rk (Int.toNat b)) (Go.Sx.rk (Int.toNat a)))
      ((2 : Int) ^ Min.min (Int.toNat (1 : Int)) (Go.IntKind.bits Go.IntKind.i64))) (c11 : Go.Sx.bitsV Go.BinOp.and Go.IntKind.i64 (Go.Sx.rk (Int.toNat b)) (Go.Sx.rk (Int.toNat a)) +
    Int.fdiv (Go.Sx.bitsV Go.BinOp.xor Go.IntKind.i64 (Go.Sx.rk (Int.toNat b)) (Go.Sx.rk (Int.toNat a)))
      ((2 : Int) ^ Min.min (Int.toNat (1 : Int)) (Go.IntKind.bits Go.IntKind.i64)) ≤
  (9223372036854775807 : Int)) (c12 : (-9218868437227405312 : Int) ≤
  Go.Sx.bitsV Go.BinOp.and Go.IntKind.i64 (Go.Sx.rk (Int.toNat b)) (Go.Sx.rk (Int.toNat a)) +
    Int.fdiv (Go.Sx.bitsV Go.BinOp.xor Go.IntKind.i64 (Go.Sx.rk (Int.toNat b)) (Go.Sx.rk (Int.toNat a)))
      ((2 : Int) ^ Min.min (Int.toNat (1 : Int)) (Go.IntKind.bits Go.IntKind.i64))) (c13 : Go.Sx.bitsV Go.BinOp.and Go.IntKind.i64 (Go.Sx.rk (Int.toNat b)) (Go.Sx.rk (Int.toNat a)) +
    Int.fdiv (Go.Sx.bitsV Go.BinOp.xor Go.IntKind.i64 (Go.Sx.rk (Int.toNat b)) (Go.Sx.rk (Int.toNat a)))
      ((2 : Int) ^ Min.min (Int.toNat (1 : Int)) (Go.IntKind.bits Go.IntKind.i64)) ≤
  (9218868437227405312 : Int)) (c14 : (!Go.Sx.finD (Int.toNat a)) = Bool.false) (c15 : (!Go.Sx.finD (Int.toNat b)) = Bool.false) (c16 : Go.Sx.isnan (Int.toNat a) = Bool.false) (c17 : Go.Sx.isnan (Int.toNat b) = Bool.false) (c18 : (0 : Int) ≤ (1 : Int)) (c19 : (-9223372036854775808 : Int) ≤
  Go.Sx.bitsV Go.BinOp.and Go.IntKind.i64 (Go.Sx.rk (Int.toNat a)) (Go.Sx.rk (Int.toNat b)) +
    Int.fdiv (Go.Sx.bitsV Go.BinOp.xor Go.IntKind.i64 (Go.Sx.rk (Int.toNat a)) (Go.Sx.rk (Int.toNat b)))
      ((2 : Int) ^ Min.min (Int.toNat (1 : Int)) (Go.IntKind.bits Go.IntKind.i64))) (c20 : Go.Sx.bitsV Go.BinOp.and Go.IntKind.i64 (Go.Sx.rk (Int.toNat a)) (Go.Sx.rk (Int.toNat b)) +
    Int.fdiv (Go.Sx.bitsV Go.BinOp.xor Go.IntKind.i64 (Go.Sx.rk (Int.toNat a)) (Go.Sx.rk (Int.toNat b)))
      ((2 : Int) ^ Min.min (Int.toNat (1 : Int)) (Go.IntKind.bits Go.IntKind.i64)) ≤
  (9223372036854775807 : Int)) (c21 : (-9218868437227405312 : Int) ≤
  Go.Sx.bitsV Go.BinOp.and Go.IntKind.i64 (Go.Sx.rk (Int.toNat a)) (Go.Sx.rk (Int.toNat b)) +
    Int.fdiv (Go.Sx.bitsV Go.BinOp.xor Go.IntKind.i64 (Go.Sx.rk (Int.toNat a)) (Go.Sx.rk (Int.toNat b)))
      ((2 : Int) ^ Min.min (Int.toNat (1 : Int)) (Go.IntKind.bits Go.IntKind.i64))) (c22 : Go.Sx.bitsV Go.BinOp.and Go.IntKind.i64 (Go.Sx.rk (Int.toNat a)) (Go.Sx.rk (Int.toNat b)) +
    Int.fdiv (Go.Sx.bitsV Go.BinOp.xor Go.IntKind.i64 (Go.Sx.rk (Int.toNat a)) (Go.Sx.rk (Int.toNat b)))
      ((2 : Int) ^ Min.min (Int.toNat (1 : Int)) (Go.IntKind.bits Go.IntKind.i64)) ≤
  (9218868437227405312 : Int)) (c23 : (!Nat.beq
      (Go.Sx.cn
        (Go.Sx.wd
          (Go.Sx.bitsV Go.BinOp.and Go.IntKind.i64 (Go.Sx.rk (Int.toNat b)) (Go.Sx.rk (Int.toNat a)) +
            Int.fdiv (Go.Sx.bitsV Go.BinOp.xor Go.IntKind.i64 (Go.Sx.rk (Int.toNat b)) (Go.Sx.rk (Int.toNat a)))
              ((2 : Int) ^ Min.min (Int.toNat (1 : Int)) (Go.IntKind.bits Go.IntKind.i64)))))
      (Go.Sx.cn
        (Go.Sx.wd
          (Go.Sx.bitsV Go.BinOp.and Go.IntKind.i64 (Go.Sx.rk (Int.toNat a)) (Go.Sx.rk (Int.toNat b)) +
            Int.fdiv (Go.Sx.bitsV Go.BinOp.xor Go.IntKind.i64 (Go.Sx.rk (Int.toNat a)) (Go.Sx.rk (Int.toNat b)))
              ((2 : Int) ^ Min.min (Int.toNat (1 : Int)) (Go.IntKind.bits Go.IntKind.i64)))))) =
  Bool.false) (c24 : Go.Sx.feq (Go.Sx.fsub (Go.Sx.cn (Int.toNat b)) (Go.Sx.cn (Int.toNat b))) (Go.Sx.cn (0 : Nat)) = Bool.true) (c25 : (!Decidable.decide ((0 : Int) = (0 : Int)) ==
      Go.Sx.feq (Go.Sx.fsub (Go.Sx.cn (Int.toNat a)) (Go.Sx.cn (Int.toNat a))) (Go.Sx.cn (0 : Nat))) =
  Bool.false) (c26 : Go.Sx.isnan (Int.toNat b) = Bool.false) (c27 : Go.Sx.isnan (Int.toNat a) = Bool.false) (c28 : Go.Sx.isnan
    (Go.Sx.wd
      (Go.Sx.bitsV Go.BinOp.and Go.IntKind.i64 (Go.Sx.rk (Int.toNat b)) (Go.Sx.rk (Int.toNat a)) +
        Int.fdiv (Go.Sx.bitsV Go.BinOp.xor Go.IntKind.i64 (Go.Sx.rk (Int.toNat b)) (Go.Sx.rk (Int.toNat a)))
          ((2 : Int) ^ Min.min (Int.toNat (1 : Int)) (Go.IntKind.bits Go.IntKind.i64)))) =
  Bool.false) (c29 : Go.Sx.flt
    (Go.Sx.cn
      (Go.Sx.wd
        (Go.Sx.bitsV Go.BinOp.and Go.IntKind.i64 (Go.Sx.rk (Int.toNat b)) (Go.Sx.rk (Int.toNat a)) +
          Int.fdiv (Go.Sx.bitsV Go.BinOp.xor Go.IntKind.i64 (Go.Sx.rk (Int.toNat b)) (Go.Sx.rk (Int.toNat a)))
            ((2 : Int) ^ Min.min (Int.toNat (1 : Int)) (Go.IntKind.bits Go.IntKind.i64)))))
    (Go.Sx.cn (Int.toNat b)) =
  Bool.false) (c30 : Go.Sx.fgt
    (Go.Sx.cn
      (Go.Sx.wd
        (Go.Sx.bitsV Go.BinOp.and Go.IntKind.i64 (Go.Sx.rk (Int.toNat b)) (Go.Sx.rk (Int.toNat a)) +
          Int.fdiv (Go.Sx.bitsV Go.BinOp.xor Go.IntKind.i64 (Go.Sx.rk (Int.toNat b)) (Go.Sx.rk (Int.toNat a)))
            ((2 : Int) ^ Min.min (Int.toNat (1 : Int)) (Go.IntKind.bits Go.IntKind.i64)))))
    (Go.Sx.cn (Int.toNat a)) =
  Bool.false) (c31 : (-9223372036854775808 : Int) ≤
  Go.Sx.rk (Int.toNat a) -
    Go.Sx.rk
      (Go.Sx.wd
        (Go.Sx.bitsV Go.BinOp.and Go.IntKind.i64 (Go.Sx.rk (Int.toNat b)) (Go.Sx.rk (Int.toNat a)) +
          Int.fdiv (Go.Sx.bitsV Go.BinOp.xor Go.IntKind.i64 (Go.Sx.rk (Int.toNat b)) (Go.Sx.rk (Int.toNat a)))
            ((2 : Int) ^ Min.min (Int.toNat (1 : Int)) (Go.IntKind.bits Go.IntKind.i64))))) (c32 : Go.Sx.rk (Int.toNat a) -
    Go.Sx.rk
      (Go.Sx.wd
        (Go.Sx.bitsV Go.BinOp.and Go.IntKind.i64 (Go.Sx.rk (Int.toNat b)) (Go.Sx.rk (Int.toNat a)) +
          Int.fdiv (Go.Sx.bitsV Go.BinOp.xor Go.IntKind.i64 (Go.Sx.rk (Int.toNat b)) (Go.Sx.rk (Int.toNat a)))
            ((2 : Int) ^ Min.min (Int.toNat (1 : Int)) (Go.IntKind.bits Go.IntKind.i64)))) ≤
  (9223372036854775807 : Int)) (c33 : (-9223372036854775808 : Int) ≤
  Go.Sx.rk
      (Go.Sx.wd
        (Go.Sx.bitsV Go.BinOp.and Go.IntKind.i64 (Go.Sx.rk (Int.toNat b)) (Go.Sx.rk (Int.toNat a)) +
          Int.fdiv (Go.Sx.bitsV Go.BinOp.xor Go.IntKind.i64 (Go.Sx.rk (Int.toNat b)) (Go.Sx.rk (Int.toNat a)))
            ((2 : Int) ^ Min.min (Int.toNat (1 : Int)) (Go.IntKind.bits Go.IntKind.i64)))) -
    Go.Sx.rk (Int.toNat b)) (c34 : Go.Sx.rk
      (Go.Sx.wd
        (Go.Sx.bitsV Go.BinOp.and Go.IntKind.i64 (Go.Sx.rk (Int.toNat b)) (Go.Sx.rk (Int.toNat a)) +
          Int.fdiv (Go.Sx.bitsV Go.BinOp.xor Go.IntKind.i64 (Go.Sx.rk (Int.toNat b)) (Go.Sx.rk (Int.toNat a)))
            ((2 : Int) ^ Min.min (Int.toNat (1 : Int)) (Go.IntKind.bits Go.IntKind.i64)))) -
    Go.Sx.rk (Int.toNat b) ≤
  (9223372036854775807 : Int)) (c35 : Decidable.decide
    (Go.IntKind.wrap Go.IntKind.u64
        (Go.IntKind.wrap Go.IntKind.u64
            (Go.Sx.rk (Int.toNat a) -
              Go.Sx.rk
                (Go.Sx.wd
                  (Go.Sx.bitsV Go.BinOp.and Go.IntKind.i64 (Go.Sx.rk (Int.toNat b)) (Go.Sx.rk (Int.toNat a)) +
                    Int.fdiv (Go.Sx.bitsV Go.BinOp.xor Go.IntKind.i64 (Go.Sx.rk (Int.toNat b)) (Go.Sx.rk (Int.toNat a)))
                      ((2 : Int) ^ Min.min (Int.toNat (1 : Int)) (Go.IntKind.bits Go.IntKind.i64))))) -
          Go.IntKind.wrap Go.IntKind.u64
            (Go.Sx.rk
                (Go.Sx.wd
                  (Go.Sx.bitsV Go.BinOp.and Go.IntKind.i64 (Go.Sx.rk (Int.toNat b)) (Go.Sx.rk (Int.toNat a)) +
                    Int.fdiv (Go.Sx.bitsV Go.BinOp.xor Go.IntKind.i64 (Go.Sx.rk (Int.toNat b)) (Go.Sx.rk (Int.toNat a)))
                      ((2 : Int) ^ Min.min (Int.toNat (1 : Int)) (Go.IntKind.bits Go.IntKind.i64)))) -
              Go.Sx.rk (Int.toNat b))) =
      (0 : Int)) =
  Bool.true) : Go.Sx.PureP (Go.Sx.AV.bool Bool.true) (call2 5 [.int true .u64 a, .int true .u64 b] (Go.Sx.G.on [true, false, false, false, false, false, true, false, false, false, true])) := by
  have e : Go.Sx.pureP (Go.Sx.AV.bool Bool.true) (call2 5 [.int true .u64 a, .int true .u64 b] (Go.Sx.G.on [true, false, false, false, false, false, true, false, false, false, true])) = ((Go.Sx.AV.bool Bool.true) = (Go.Sx.AV.bool Bool.true) ∧ ((((((((((((((((((((((((((((True ∧ (((0 : Int) ≤ a) ∧ (a < (18446744073709551616 : Int)))) ∧ (((0 : Int) ≤ b) ∧ (b < (18446744073709551616 : Int)))) ∧ (Go.Sx.flt (Go.Sx.cn (Int.toNat b)) (Go.Sx.cn (Int.toNat a)) = Bool.true)) ∧ ((!Go.Sx.finD (Int.toNat b)) = Bool.false)) ∧ ((!Go.Sx.finD (Int.toNat a)) = Bool.false)) ∧ (Go.Sx.isnan (Int.toNat b) = Bool.false)) ∧ (Go.Sx.isnan (Int.toNat a) = Bool.false)) ∧ ((0 : Int) ≤ (1 : Int))) ∧ (((-9223372036854775808 : Int) ≤
  Go.Sx.bitsV Go.BinOp.and Go.IntKind.i64 (Go.Sx.rk (Int.toNat b)) (Go.Sx.rk (Int.toNat a)) +
    Int.fdiv (Go.Sx.bitsV Go.BinOp.xor Go.IntKind.i64 (Go.Sx.rk (Int.toNat b)) (Go.Sx.rk (Int.toNat a)))
      ((2 : Int) ^ Min.min (Int.toNat (1 : Int)) (Go.IntKind.bits Go.IntKind.i64))) ∧ (Go.Sx.bitsV Go.BinOp.and Go.IntKind.i64 (Go.Sx.rk (Int.toNat b)) (Go.Sx.rk (Int.toNat a)) +
    Int.fdiv (Go.Sx.bitsV Go.BinOp.xor Go.IntKind.i64 (Go.Sx.rk (Int.toNat b)) (Go.Sx.rk (Int.toNat a)))
      ((2 : Int) ^ Min.min (Int.toNat (1 : Int)) (Go.IntKind.bits Go.IntKind.i64)) ≤
  (9223372036854775807 : Int)))) ∧ (((-9218868437227405312 : Int) ≤
  Go.Sx.bitsV Go.BinOp.and Go.IntKind.i64 (Go.Sx.rk (Int.toNat b)) (Go.Sx.rk (Int.toNat a)) +
    Int.fdiv (Go.Sx.bitsV Go.BinOp.xor Go.IntKind.i64 (Go.Sx.rk (Int.toNat b)) (Go.Sx.rk (Int.toNat a)))
      ((2 : Int) ^ Min.min (Int.toNat (1 : Int)) (Go.IntKind.bits Go.IntKind.i64))) ∧ (Go.Sx.bitsV Go.BinOp.and Go.IntKind.i64 (Go.Sx.rk (Int.toNat b)) (Go.Sx.rk (Int.toNat a)) +
    Int.fdiv (Go.Sx.bitsV Go.BinOp.xor Go.IntKind.i64 (Go.Sx.rk (Int.toNat b)) (Go.Sx.rk (Int.toNat a)))
      ((2 : Int) ^ Min.min (Int.toNat (1 : Int)) (Go.IntKind.bits Go.IntKind.i64)) ≤
  (9218868437227405312 : Int)))) ∧ ((!Go.Sx.finD (Int.toNat a)) = Bool.false)) ∧ ((!Go.Sx.finD (Int.toNat b)) = Bool.false)) ∧ (Go.Sx.isnan (Int.toNat a) = Bool.false)) ∧ (Go.Sx.isnan (Int.toNat b) = Bool.false)) ∧ ((0 : Int) ≤ (1 : Int))) ∧ (((-9223372036854775808 : Int) ≤
  Go.Sx.bitsV Go.BinOp.and Go.IntKind.i64 (Go.Sx.rk (Int.toNat a)) (Go.Sx.rk (Int.toNat b)) +
    Int.fdiv (Go.Sx.bitsV Go.BinOp.xor Go.IntKind.i64 (Go.Sx.rk (Int.toNat a)) (Go.Sx.rk (Int.toNat b)))
      ((2 : Int) ^ Min.min (Int.toNat (1 : Int)) (Go.IntKind.bits Go.IntKind.i64))) ∧ (Go.Sx.bitsV Go.BinOp.and Go.IntKind.i64 (Go.Sx.rk (Int.toNat a)) (Go.Sx.rk (Int.toNat b)) +
    Int.fdiv (Go.Sx.bitsV Go.BinOp.xor Go.IntKind.i64 (Go.Sx.rk (Int.toNat a)) (Go.Sx.rk (Int.toNat b)))
      ((2 : Int) ^ Min.min (Int.toNat (1 : Int)) (Go.IntKind.bits Go.IntKind.i64)) ≤
  (9223372036854775807 : Int)))) ∧ (((-9218868437227405312 : Int) ≤
  Go.Sx.bitsV Go.BinOp.and Go.IntKind.i64 (Go.Sx.rk (Int.toNat a)) (Go.Sx.rk (Int.toNat b)) +
    Int.fdiv (Go.Sx.bitsV Go.BinOp.xor Go.IntKind.i64 (Go.Sx.rk (Int.toNat a)) (Go.Sx.rk (Int.toNat b)))
      ((2 : Int) ^ Min.min (Int.toNat (1 : Int)) (Go.IntKind.bits Go.IntKind.i64))) ∧ (Go.Sx.bitsV Go.BinOp.and Go.IntKind.i64 (Go.Sx.rk (Int.toNat a)) (Go.Sx.rk (Int.toNat b)) +
    Int.fdiv (Go.Sx.bitsV Go.BinOp.xor Go.IntKind.i64 (Go.Sx.rk (Int.toNat a)) (Go.Sx.rk (Int.toNat b)))
      ((2 : Int) ^ Min.min (Int.toNat (1 : Int)) (Go.IntKind.bits Go.IntKind.i64)) ≤
  (9218868437227405312 : Int)))) ∧ ((!Nat.beq
      (Go.Sx.cn
        (Go.Sx.wd
          (Go.Sx.bitsV Go.BinOp.and Go.IntKind.i64 (Go.Sx.rk (Int.toNat b)) (Go.Sx.rk (Int.toNat a)) +
            Int.fdiv (Go.Sx.bitsV Go.BinOp.xor Go.IntKind.i64 (Go.Sx.rk (Int.toNat b)) (Go.Sx.rk (Int.toNat a)))
              ((2 : Int) ^ Min.min (Int.toNat (1 : Int)) (Go.IntKind.bits Go.IntKind.i64)))))
      (Go.Sx.cn
        (Go.Sx.wd
          (Go.Sx.bitsV Go.BinOp.and Go.IntKind.i64 (Go.Sx.rk (Int.toNat a)) (Go.Sx.rk (Int.toNat b)) +
            Int.fdiv (Go.Sx.bitsV Go.BinOp.xor Go.IntKind.i64 (Go.Sx.rk (Int.toNat a)) (Go.Sx.rk (Int.toNat b)))
              ((2 : Int) ^ Min.min (Int.toNat (1 : Int)) (Go.IntKind.bits Go.IntKind.i64)))))) =
  Bool.false)) ∧ (Go.Sx.feq (Go.Sx.fsub (Go.Sx.cn (Int.toNat b)) (Go.Sx.cn (Int.toNat b))) (Go.Sx.cn (0 : Nat)) = Bool.true)) ∧ ((!Decidable.decide ((0 : Int) = (0 : Int)) ==
      Go.Sx.feq (Go.Sx.fsub (Go.Sx.cn (Int.toNat a)) (Go.Sx.cn (Int.toNat a))) (Go.Sx.cn (0 : Nat))) =
  Bool.false)) ∧ (Go.Sx.isnan (Int.toNat b) = Bool.false)) ∧ (Go.Sx.isnan (Int.toNat a) = Bool.false)) ∧ (Go.Sx.isnan
    (Go.Sx.wd
      (Go.Sx.bitsV Go.BinOp.and Go.IntKind.i64 (Go.Sx.rk (Int.toNat b)) (Go.Sx.rk (Int.toNat a)) +
        Int.fdiv (Go.Sx.bitsV Go.BinOp.xor Go.IntKind.i64 (Go.Sx.rk (Int.toNat b)) (Go.Sx.rk (Int.toNat a)))
          ((2 : Int) ^ Min.min (Int.toNat (1 : Int)) (Go.IntKind.bits Go.IntKind.i64)))) =
  Bool.false)) ∧ (Go.Sx.flt
    (Go.Sx.cn
      (Go.Sx.wd
        (Go.Sx.bitsV Go.BinOp.and Go.IntKind.i64 (Go.Sx.rk (Int.toNat b)) (Go.Sx.rk (Int.toNat a)) +
          Int.fdiv (Go.Sx.bitsV Go.BinOp.xor Go.IntKind.i64 (Go.Sx.rk (Int.toNat b)) (Go.Sx.rk (Int.toNat a)))
            ((2 : Int) ^ Min.min (Int.toNat (1 : Int)) (Go.IntKind.bits Go.IntKind.i64)))))
    (Go.Sx.cn (Int.toNat b)) =
  Bool.false)) ∧ (Go.Sx.fgt
    (Go.Sx.cn
      (Go.Sx.wd
        (Go.Sx.bitsV Go.BinOp.and Go.IntKind.i64 (Go.Sx.rk (Int.toNat b)) (Go.Sx.rk (Int.toNat a)) +
          Int.fdiv (Go.Sx.bitsV Go.BinOp.xor Go.IntKind.i64 (Go.Sx.rk (Int.toNat b)) (Go.Sx.rk (Int.toNat a)))
            ((2 : Int) ^ Min.min (Int.toNat (1 : Int)) (Go.IntKind.bits Go.IntKind.i64)))))
    (Go.Sx.cn (Int.toNat a)) =
  Bool.false)) ∧ (((-9223372036854775808 : Int) ≤
  Go.Sx.rk (Int.toNat a) -
    Go.Sx.rk
      (Go.Sx.wd
        (Go.Sx.bitsV Go.BinOp.and Go.IntKind.i64 (Go.Sx.rk (Int.toNat b)) (Go.Sx.rk (Int.toNat a)) +
          Int.fdiv (Go.Sx.bitsV Go.BinOp.xor Go.IntKind.i64 (Go.Sx.rk (Int.toNat b)) (Go.Sx.rk (Int.toNat a)))
            ((2 : Int) ^ Min.min (Int.toNat (1 : Int)) (Go.IntKind.bits Go.IntKind.i64))))) ∧ (Go.Sx.rk (Int.toNat a) -
    Go.Sx.rk
      (Go.Sx.wd
        (Go.Sx.bitsV Go.BinOp.and Go.IntKind.i64 (Go.Sx.rk (Int.toNat b)) (Go.Sx.rk (Int.toNat a)) +
          Int.fdiv (Go.Sx.bitsV Go.BinOp.xor Go.IntKind.i64 (Go.Sx.rk (Int.toNat b)) (Go.Sx.rk (Int.toNat a)))
            ((2 : Int) ^ Min.min (Int.toNat (1 : Int)) (Go.IntKind.bits Go.IntKind.i64)))) ≤
  (9223372036854775807 : Int)))) ∧ (((-9223372036854775808 : Int) ≤
  Go.Sx.rk
      (Go.Sx.wd
        (Go.Sx.bitsV Go.BinOp.and Go.IntKind.i64 (Go.Sx.rk (Int.toNat b)) (Go.Sx.rk (Int.toNat a)) +
          Int.fdiv (Go.Sx.bitsV Go.BinOp.xor Go.IntKind.i64 (Go.Sx.rk (Int.toNat b)) (Go.Sx.rk (Int.toNat a)))
            ((2 : Int) ^ Min.min (Int.toNat (1 : Int)) (Go.IntKind.bits Go.IntKind.i64)))) -
    Go.Sx.rk (Int.toNat b)) ∧ (Go.Sx.rk
      (Go.Sx.wd
        (Go.Sx.bitsV Go.BinOp.and Go.IntKind.i64 (Go.Sx.rk (Int.toNat b)) (Go.Sx.rk (Int.toNat a)) +
          Int.fdiv (Go.Sx.bitsV Go.BinOp.xor Go.IntKind.i64 (Go.Sx.rk (Int.toNat b)) (Go.Sx.rk (Int.toNat a)))
            ((2 : Int) ^ Min.min (Int.toNat (1 : Int)) (Go.IntKind.bits Go.IntKind.i64)))) -
    Go.Sx.rk (Int.toNat b) ≤
  (9223372036854775807 : Int)))) ∧ (Decidable.decide
    (Go.IntKind.wrap Go.IntKind.u64
        (Go.IntKind.wrap Go.IntKind.u64
            (Go.Sx.rk (Int.toNat a) -
              Go.Sx.rk
                (Go.Sx.wd
                  (Go.Sx.bitsV Go.BinOp.and Go.IntKind.i64 (Go.Sx.rk (Int.toNat b)) (Go.Sx.rk (Int.toNat a)) +
                    Int.fdiv (Go.Sx.bitsV Go.BinOp.xor Go.IntKind.i64 (Go.Sx.rk (Int.toNat b)) (Go.Sx.rk (Int.toNat a)))
                      ((2 : Int) ^ Min.min (Int.toNat (1 : Int)) (Go.IntKind.bits Go.IntKind.i64))))) -
          Go.IntKind.wrap Go.IntKind.u64
            (Go.Sx.rk
                (Go.Sx.wd
                  (Go.Sx.bitsV Go.BinOp.and Go.IntKind.i64 (Go.Sx.rk (Int.toNat b)) (Go.Sx.rk (Int.toNat a)) +
                    Int.fdiv (Go.Sx.bitsV Go.BinOp.xor Go.IntKind.i64 (Go.Sx.rk (Int.toNat b)) (Go.Sx.rk (Int.toNat a)))
                      ((2 : Int) ^ Min.min (Int.toNat (1 : Int)) (Go.IntKind.bits Go.IntKind.i64)))) -
              Go.Sx.rk (Int.toNat b))) =
      (0 : Int)) =
  Bool.true))) := by kernel_rfl
  exact ⟨by rw [e]; exact ⟨rfl, ⟨⟨⟨⟨⟨⟨⟨⟨⟨⟨⟨⟨⟨⟨⟨⟨⟨⟨⟨⟨⟨⟨⟨⟨⟨⟨⟨⟨trivial, ⟨c0, c1⟩⟩, ⟨c2, c3⟩⟩, c4⟩, c5⟩, c6⟩, c7⟩, c8⟩, c9⟩, ⟨c10, c11⟩⟩, ⟨c12, c13⟩⟩, c14⟩, c15⟩, c16⟩, c17⟩, c18⟩, ⟨c19, c20⟩⟩, ⟨c21, c22⟩⟩, c23⟩, c24⟩, c25⟩, c26⟩, c27⟩, c28⟩, c29⟩, c30⟩, ⟨c31, c32⟩⟩, ⟨c33, c34⟩⟩, c35⟩⟩⟩
theorem half_21 (a b : Int) (c0 : (0 : Int) ≤ a) (c1 : a < (18446744073709551616 : Int)) (c2 : (0 : Int) ≤ b) (c3 : b < (18446744073709551616 : Int)) (c4 : Go.Sx.flt (Go.Sx.cn (Int.toNat b)) (Go.Sx.cn (Int.toNat a)) = Bool.true) (c5 : (!Go.Sx.finD (Int.toNat b)) = Bool.false) (c6 : (!Go.Sx.finD (Int.toNat a)) = Bool.false) (c7 : Go.Sx.isnan (Int.toNat b) = Bool.false) (c8 : Go.Sx.isnan (Int.toNat a) = Bool.false) (c9 : (0 : Int) ≤ (1 : Int)) (c10 : (-9223372036854775808 : Int) ≤
  Go.Sx.bitsV Go.BinOp.and Go.IntKind.i64 (Go.Sx.rk (Int.toNat b)) (Go.Sx.rk (Int.toNat a)) +
    Int.fdiv (Go.Sx.bitsV Go.BinOp.xor Go.IntKind.i64 (Go.Sx.rk (Int.toNat b)) (Go.Sx.rk (Int.toNat a)))
      ((2 : Int) ^ Min.min (Int.toNat (1 : Int)) (Go.IntKind.bits Go.IntKind.i64))) (c11 : Go.Sx.bitsV Go.BinOp.and Go.IntKind.i64 (Go.Sx.rk (Int.toNat b)) (Go.Sx.rk (Int.toNat a)) +
    Int.fdiv (Go.Sx.bitsV Go.BinOp.xor Go.IntKind.i64 (Go.Sx.rk (Int.toNat b)) (Go.Sx.rk (Int.toNat a)))
      ((2 : Int) ^ Min.min (Int.toNat (1 : Int)) (Go.IntKind.bits Go.IntKind.i64)) ≤
  (9223372036854775807 : Int)) (c12 : (-9218868437227405312 : Int) ≤
  Go.Sx.bitsV Go.BinOp.and Go.IntKind.i64 (Go.Sx.rk (Int.toNat b)) (Go.Sx.rk (Int.toNat a)) +
    Int.fdiv (Go.Sx.bitsV Go.BinOp.xor Go.IntKind.i64 (Go.Sx.rk (Int.toNat b)) (Go.Sx.rk (Int.toNat a)))
      ((2 : Int) ^ Min.min (Int.toNat (1 : Int)) (Go.IntKind.bits Go.IntKind.i64))) (c13 : Go.Sx.bitsV Go.BinOp.and Go.IntKind.i64 (Go.Sx.rk (Int.toNat b)) (Go.Sx.rk (Int.toNat a)) +
    Int.fdiv (Go.Sx.bitsV Go.BinOp.xor Go.IntKind.i64 (Go.Sx.rk (Int.toNat b)) (Go.Sx.rk (Int.toNat a)))
      ((2 : Int) ^ Min.min (Int.toNat (1 : Int)) (Go.IntKind.bits Go.IntKind.i64)) ≤
  (9218868437227405312 : Int)) (c14 : (!Go.Sx.finD (Int.toNat a)) = Bool.false) (c15 : (!Go.Sx.finD (Int.toNat b)) = Bool.false) (c16 : Go.Sx.isnan (Int.toNat a) = Bool.false) (c17 : Go.Sx.isnan (Int.toNat b) = Bool.false) (c18 : (0 : Int) ≤ (1 : Int)) (c19 : (-9223372036854775808 : Int) ≤
  Go.Sx.bitsV Go.BinOp.and Go.IntKind.i64 (Go.Sx.rk (Int.toNat a)) (Go.Sx.rk (Int.toNat b)) +
    Int.fdiv (Go.Sx.bitsV Go.BinOp.xor Go.IntKind.i64 (Go.Sx.rk (Int.toNat a)) (Go.Sx.rk (Int.toNat b)))
      ((2 : Int) ^ Min.min (Int.toNat (1 : Int)) (Go.IntKind.bits Go.IntKind.i64))) (c20 : Go.Sx.bitsV Go.BinOp.and Go.IntKind.i64 (Go.Sx.rk (Int.toNat a)) (Go.Sx.rk (Int.toNat b)) +
    Int.fdiv (Go.Sx.bitsV Go.BinOp.xor Go.IntKind.i64 (Go.Sx.rk (Int.toNat a)) (Go.Sx.rk (Int.toNat b)))
      ((2 : Int) ^ Min.min (Int.toNat (1 : Int)) (Go.IntKind.bits Go.IntKind.i64)) ≤
  (9223372036854775807 : Int)) (c21 : (-9218868437227405312 : Int) ≤
  Go.Sx.bitsV Go.BinOp.and Go.IntKind.i64 (Go.Sx.rk (Int.toNat a)) (Go.Sx.rk (Int.toNat b)) +
    Int.fdiv (Go.Sx.bitsV Go.BinOp.xor Go.IntKind.i64 (Go.Sx.rk (Int.toNat a)) (Go.Sx.rk (Int.toNat b)))
      ((2 : Int) ^ Min.min (Int.toNat (1 : Int)) (Go.IntKind.bits Go.IntKind.i64))) (c22 : Go.Sx.bitsV Go.BinOp.and Go.IntKind.i64 (Go.Sx.rk (Int.toNat a)) (Go.Sx.rk (Int.toNat b)) +
    Int.fdiv (Go.Sx.bitsV Go.BinOp.xor Go.IntKind.i64 (Go.Sx.rk (Int.toNat a)) (Go.Sx.rk (Int.toNat b)))
      ((2 : Int) ^ Min.min (Int.toNat (1 : Int)) (Go.IntKind.bits Go.IntKind.i64)) ≤
  (9218868437227405312 : Int)) (c23 : (!Nat.beq
      (Go.Sx.cn
        (Go.Sx.wd
          (Go.Sx.bitsV Go.BinOp.and Go.IntKind.i64 (Go.Sx.rk (Int.toNat b)) (Go.Sx.rk (Int.toNat a)) +
            Int.fdiv (Go.Sx.bitsV Go.BinOp.xor Go.IntKind.i64 (Go.Sx.rk (Int.toNat b)) (Go.Sx.rk (Int.toNat a)))
              ((2 : Int) ^ Min.min (Int.toNat (1 : Int)) (Go.IntKind.bits Go.IntKind.i64)))))
      (Go.Sx.cn
        (Go.Sx.wd
          (Go.Sx.bitsV Go.BinOp.and Go.IntKind.i64 (Go.Sx.rk (Int.toNat a)) (Go.Sx.rk (Int.toNat b)) +
            Int.fdiv (Go.Sx.bitsV Go.BinOp.xor Go.IntKind.i64 (Go.Sx.rk (Int.toNat a)) (Go.Sx.rk (Int.toNat b)))
              ((2 : Int) ^ Min.min (Int.toNat (1 : Int)) (Go.IntKind.bits Go.IntKind.i64)))))) =
  Bool.false) (c24 : Go.Sx.feq (Go.Sx.fsub (Go.Sx.cn (Int.toNat b)) (Go.Sx.cn (Int.toNat b))) (Go.Sx.cn (0 : Nat)) = Bool.true) (c25 : (!Decidable.decide ((0 : Int) = (0 : Int)) ==
      Go.Sx.feq (Go.Sx.fsub (Go.Sx.cn (Int.toNat a)) (Go.Sx.cn (Int.toNat a))) (Go.Sx.cn (0 : Nat))) =
  Bool.false) (c26 : Go.Sx.isnan (Int.toNat b) = Bool.false) (c27 : Go.Sx.isnan (Int.toNat a) = Bool.false) (c28 : Go.Sx.isnan
    (Go.Sx.wd
      (Go.Sx.bitsV Go.BinOp.and Go.IntKind.i64 (Go.Sx.rk (Int.toNat b)) (Go.Sx.rk (Int.toNat a)) +
        Int.fdiv (Go.Sx.bitsV Go.BinOp.xor Go.IntKind.i64 (Go.Sx.rk (Int.toNat b)) (Go.Sx.rk (Int.toNat a)))
          ((2 : Int) ^ Min.min (Int.toNat (1 : Int)) (Go.IntKind.bits Go.IntKind.i64)))) =
  Bool.false) (c29 : Go.Sx.flt
    (Go.Sx.cn
      (Go.Sx.wd
        (Go.Sx.bitsV Go.BinOp.and Go.IntKind.i64 (Go.Sx.rk (Int.toNat b)) (Go.Sx.rk (Int.toNat a)) +
          Int.fdiv (Go.Sx.bitsV Go.BinOp.xor Go.IntKind.i64 (Go.Sx.rk (Int.toNat b)) (Go.Sx.rk (Int.toNat a)))
            ((2 : Int) ^ Min.min (Int.toNat (1 : Int)) (Go.IntKind.bits Go.IntKind.i64)))))
    (Go.Sx.cn (Int.toNat b)) =
  Bool.false) (c30 : Go.Sx.fgt
    (Go.Sx.cn
      (Go.Sx.wd
        (Go.Sx.bitsV Go.BinOp.and Go.IntKind.i64 (Go.Sx.rk (Int.toNat b)) (Go.Sx.rk (Int.toNat a)) +
          Int.fdiv (Go.Sx.bitsV Go.BinOp.xor Go.IntKind.i64 (Go.Sx.rk (Int.toNat b)) (Go.Sx.rk (Int.toNat a)))
            ((2 : Int) ^ Min.min (Int.toNat (1 : Int)) (Go.IntKind.bits Go.IntKind.i64)))))
    (Go.Sx.cn (Int.toNat a)) =
  Bool.false) (c31 : (-9223372036854775808 : Int) ≤
  Go.Sx.rk (Int.toNat a) -
    Go.Sx.rk
      (Go.Sx.wd
        (Go.Sx.bitsV Go.BinOp.and Go.IntKind.i64 (Go.Sx.rk (Int.toNat b)) (Go.Sx.rk (Int.toNat a)) +
          Int.fdiv (Go.Sx.bitsV Go.BinOp.xor Go.IntKind.i64 (Go.Sx.rk (Int.toNat b)) (Go.Sx.rk (Int.toNat a)))
            ((2 : Int) ^ Min.min (Int.toNat (1 : Int)) (Go.IntKind.bits Go.IntKind.i64))))) (c32 : Go.Sx.rk (Int.toNat a) -
    Go.Sx.rk
      (Go.Sx.wd
        (Go.Sx.bitsV Go.BinOp.and Go.IntKind.i64 (Go.Sx.rk (Int.toNat b)) (Go.Sx.rk (Int.toNat a)) +
          Int.fdiv (Go.Sx.bitsV Go.BinOp.xor Go.IntKind.i64 (Go.Sx.rk (Int.toNat b)) (Go.Sx.rk (Int.toNat a)))
            ((2 : Int) ^ Min.min (Int.toNat (1 : Int)) (Go.IntKind.bits Go.IntKind.i64)))) ≤
  (9223372036854775807 : Int)) (c33 : (-9223372036854775808 : Int) ≤
  Go.Sx.rk
      (Go.Sx.wd
        (Go.Sx.bitsV Go.BinOp.and Go.IntKind.i64 (Go.Sx.rk (Int.toNat b)) (Go.Sx.rk (Int.toNat a)) +
          Int.fdiv (Go.Sx.bitsV Go.BinOp.xor Go.IntKind.i64 (Go.Sx.rk (Int.toNat b)) (Go.Sx.rk (Int.toNat a)))
            ((2 : Int) ^ Min.min (Int.toNat (1 : Int)) (Go.IntKind.bits Go.IntKind.i64)))) -
    Go.Sx.rk (Int.toNat b)) (c34 : Go.Sx.rk
      (Go.Sx.wd
        (Go.Sx.bitsV Go.BinOp.and Go.IntKind.i64 (Go.Sx.rk (Int.toNat b)) (Go.Sx.rk (Int.toNat a)) +
          Int.fdiv (Go.Sx.bitsV Go.BinOp.xor Go.IntKind.i64 (Go.Sx.rk (Int.toNat b)) (Go.Sx.rk (Int.toNat a)))
            ((2 : Int) ^ Min.min (Int.toNat (1 : Int)) (Go.IntKind.bits Go.IntKind.i64)))) -
    Go.Sx.rk (Int.toNat b) ≤
  (9223372036854775807 : Int)) (c35 : Decidable.decide
    (Go.IntKind.wrap Go.IntKind.u64
        (Go.IntKind.wrap Go.IntKind.u64
            (Go.Sx.rk (Int.toNat a) -
              Go.Sx.rk
                (Go.Sx.wd
                  (Go.Sx.bitsV Go.BinOp.and Go.IntKind.i64 (Go.Sx.rk (Int.toNat b)) (Go.Sx.rk (Int.toNat a)) +
                    Int.fdiv (Go.Sx.bitsV Go.BinOp.xor Go.IntKind.i64 (Go.Sx.rk (Int.toNat b)) (Go.Sx.rk (Int.toNat a)))
                      ((2 : Int) ^ Min.min (Int.toNat (1 : Int)) (Go.IntKind.bits Go.IntKind.i64))))) -
          Go.IntKind.wrap Go.IntKind.u64
            (Go.Sx.rk
                (Go.Sx.wd
                  (Go.Sx.bitsV Go.BinOp.and Go.IntKind.i64 (Go.Sx.rk (Int.toNat b)) (Go.Sx.rk (Int.toNat a)) +
                    Int.fdiv (Go.Sx.bitsV Go.BinOp.xor Go.IntKind.i64 (Go.Sx.rk (Int.toNat b)) (Go.Sx.rk (Int.toNat a)))
                      ((2 : Int) ^ Min.min (Int.toNat (1 : Int)) (Go.IntKind.bits Go.IntKind.i64)))) -
              Go.Sx.rk (Int.toNat b))) =
      (0 : Int)) =
  Bool.false) : Go.Sx.PureP (Go.Sx.AV.sbool
  (Decidable.decide
    (Go.IntKind.wrap Go.IntKind.u64
        (Go.IntKind.wrap Go.IntKind.u64
            (Go.Sx.rk (Int.toNat a) -
              Go.Sx.rk
                (Go.Sx.wd
                  (Go.Sx.bitsV Go.BinOp.and Go.IntKind.i64 (Go.Sx.rk (Int.toNat b)) (Go.Sx.rk (Int.toNat a)) +
                    Int.fdiv (Go.Sx.bitsV Go.BinOp.xor Go.IntKind.i64 (Go.Sx.rk (Int.toNat b)) (Go.Sx.rk (Int.toNat a)))
                      ((2 : Int) ^ Min.min (Int.toNat (1 : Int)) (Go.IntKind.bits Go.IntKind.i64))))) -
          Go.IntKind.wrap Go.IntKind.u64
            (Go.Sx.rk
                (Go.Sx.wd
                  (Go.Sx.bitsV Go.BinOp.and Go.IntKind.i64 (Go.Sx.rk (Int.toNat b)) (Go.Sx.rk (Int.toNat a)) +
                    Int.fdiv (Go.Sx.bitsV Go.BinOp.xor Go.IntKind.i64 (Go.Sx.rk (Int.toNat b)) (Go.Sx.rk (Int.toNat a)))
                      ((2 : Int) ^ Min.min (Int.toNat (1 : Int)) (Go.IntKind.bits Go.IntKind.i64)))) -
              Go.Sx.rk (Int.toNat b))) =
      (1 : Int)))) (call2 5 [.int true .u64 a, .int true .u64 b] (Go.Sx.G.on [true, false, false, false, false, false, true, false, false, false, false])) := by
  have e : Go.Sx.pureP (Go.Sx.AV.sbool
  (Decidable.decide
    (Go.IntKind.wrap Go.IntKind.u64
        (Go.IntKind.wrap Go.IntKind.u64
            (Go.Sx.rk (Int.toNat a) -
              Go.Sx.rk
                (Go.Sx.wd
                  (Go.Sx.bitsV Go.BinOp.and Go.IntKind.i64 (Go.Sx.rk (Int.toNat b)) (Go.Sx.rk (Int.toNat a)) +
                    Int.fdiv (Go.Sx.bitsV Go.BinOp.xor Go.IntKind.i64 (Go.Sx.rk (Int.toNat b)) (Go.Sx.rk (Int.toNat a)))
                      ((2 : Int) ^ Min.min (Int.toNat (1 : Int)) (Go.IntKind.bits Go.IntKind.i64))))) -
          Go.IntKind.wrap Go.IntKind.u64
            (Go.Sx.rk
                (Go.Sx.wd
                  (Go.Sx.bitsV Go.BinOp.and Go.IntKind.i64 (Go.Sx.rk (Int.toNat b)) (Go.Sx.rk (Int.toNat a)) +
                    Int.fdiv (Go.Sx.bitsV Go.BinOp.xor Go.IntKind.i64 (Go.Sx.rk (Int.toNat b)) (Go.Sx.rk (Int.toNat a)))
                      ((2 : Int) ^ Min.min (Int.toNat (1 : Int)) (Go.IntKind.bits Go.IntKind.i64)))) -
              Go.Sx.rk (Int.toNat b))) =
      (1 : Int)))) (call2 5 [.int true .u64 a, .int true .u64 b] (Go.Sx.G.on [true, false, false, false, false, false, true, false, false, false, false])) = ((Go.Sx.AV.sbool
  (Decidable.decide
    (Go.IntKind.wrap Go.IntKind.u64
        (Go.IntKind.wrap Go.IntKind.u64
            (Go.Sx.rk (Int.toNat a) -
              Go.Sx.rk
                (Go.Sx.wd
                  (Go.Sx.bitsV Go.BinOp.and Go.IntKind.i64 (Go.Sx.rk (Int.toNat b)) (Go.Sx.rk (Int.toNat a)) +
                    Int.fdiv (Go.Sx.bitsV Go.BinOp.xor Go.IntKind.i64 (Go.Sx.rk (Int.toNat b)) (Go.Sx.rk (Int.toNat a)))
                      ((2 : Int) ^ Min.min (Int.toNat (1 : Int)) (Go.IntKind.bits Go.IntKind.i64))))) -
          Go.IntKind.wrap Go.IntKind.u64
            (Go.Sx.rk
                (Go.Sx.wd
                  (Go.Sx.bitsV Go.BinOp.and Go.IntKind.i64 (Go.Sx.rk (Int.toNat b)) (Go.Sx.rk (Int.toNat a)) +
                    Int.fdiv (Go.Sx.bitsV Go.BinOp.xor Go.IntKind.i64 (Go.Sx.rk (Int.toNat b)) (Go.Sx.rk (Int.toNat a)))
                      ((2 : Int) ^ Min.min (Int.toNat (1 : Int)) (Go.IntKind.bits Go.IntKind.i64)))) -
              Go.Sx.rk (Int.toNat b))) =
      (1 : Int)))) = (Go.Sx.AV.sbool
  (Decidable.decide
    (Go.IntKind.wrap Go.IntKind.u64
        (Go.IntKind.wrap Go.IntKind.u64
            (Go.Sx.rk (Int.toNat a) -
              Go.Sx.rk
                (Go.Sx.wd
                  (Go.Sx.bitsV Go.BinOp.and Go.IntKind.i64 (Go.Sx.rk (Int.toNat b)) (Go.Sx.rk (Int.toNat a)) +
                    Int.fdiv (Go.Sx.bitsV Go.BinOp.xor Go.IntKind.i64 (Go.Sx.rk (Int.toNat b)) (Go.Sx.rk (Int.toNat a)))
                      ((2 : Int) ^ Min.min (Int.toNat (1 : Int)) (Go.IntKind.bits Go.IntKind.i64))))) -
          Go.IntKind.wrap Go.IntKind.u64
            (Go.Sx.rk
                (Go.Sx.wd
                  (Go.Sx.bitsV Go.BinOp.and Go.IntKind.i64 (Go.Sx.rk (Int.toNat b)) (Go.Sx.rk (Int.toNat a)) +
                    Int.fdiv (Go.Sx.bitsV Go.BinOp.xor Go.IntKind.i64 (Go.Sx.rk (Int.toNat b)) (Go.Sx.rk (Int.toNat a)))
                      ((2 : Int) ^ Min.min (Int.toNat (1 : Int)) (Go.IntKind.bits Go.IntKind.i64)))) -
              Go.Sx.rk (Int.toNat b))) =
      (1 : Int)))) ∧ ((((((((((((((((((((((((((((True ∧ (((0 : Int) ≤ a) ∧ (a < (18446744073709551616 : Int)))) ∧ (((0 : Int) ≤ b) ∧ (b < (18446744073709551616 : Int)))) ∧ (Go.Sx.flt (Go.Sx.cn (Int.toNat b)) (Go.Sx.cn (Int.toNat a)) = Bool.true)) ∧ ((!Go.Sx.finD (Int.toNat b)) = Bool.false)) ∧ ((!Go.Sx.finD (Int.toNat a)) = Bool.false)) ∧ (Go.Sx.isnan (Int.toNat b) = Bool.false)) ∧ (Go.Sx.isnan (Int.toNat a) = Bool.false)) ∧ ((0 : Int) ≤ (1 : Int))) ∧ (((-9223372036854775808 : Int) ≤
  Go.Sx.bitsV Go.BinOp.and Go.IntKind.i64 (Go.Sx.rk (Int.toNat b)) (Go.Sx.rk (Int.toNat a)) +
    Int.fdiv (Go.Sx.bitsV Go.BinOp.xor Go.IntKind.i64 (Go.Sx.rk (Int.toNat b)) (Go.Sx.rk (Int.toNat a)))
      ((2 : Int) ^ Min.min (Int.toNat (1 : Int)) (Go.IntKind.bits Go.IntKind.i64))) ∧ (Go.Sx.bitsV Go.BinOp.and Go.IntKind.i64 (Go.Sx.rk (Int.toNat b)) (Go.Sx.rk (Int.toNat a)) +
    Int.fdiv (Go.Sx.bitsV Go.BinOp.xor Go.IntKind.i64 (Go.Sx.rk (Int.toNat b)) (Go.Sx.rk (Int.toNat a)))
      ((2 : Int) ^ Min.min (Int.toNat (1 : Int)) (Go.IntKind.bits Go.IntKind.i64)) ≤
  (9223372036854775807 : Int)))) ∧ (((-9218868437227405312 : Int) ≤
  Go.Sx.bitsV Go.BinOp.and Go.IntKind.i64 (Go.Sx.rk (Int.toNat b)) (Go.Sx.rk (Int.toNat a)) +
    Int.fdiv (Go.Sx.bitsV Go.BinOp.xor Go.IntKind.i64 (Go.Sx.rk (Int.toNat b)) (Go.Sx.rk (Int.toNat a)))
      ((2 : Int) ^ Min.min (Int.toNat (1 : Int)) (Go.IntKind.bits Go.IntKind.i64))) ∧ (Go.Sx.bitsV Go.BinOp.and Go.IntKind.i64 (Go.Sx.rk (Int.toNat b)) (Go.Sx.rk (Int.toNat a)) +
    Int.fdiv (Go.Sx.bitsV Go.BinOp.xor Go.IntKind.i64 (Go.Sx.rk (Int.toNat b)) (Go.Sx.rk (Int.toNat a)))
      ((2 : Int) ^ Min.min (Int.toNat (1 : Int)) (Go.IntKind.bits Go.IntKind.i64)) ≤
  (9218868437227405312 : Int)))) ∧ ((!Go.Sx.finD (Int.toNat a)) = Bool.false)) ∧ ((!Go.Sx.finD (Int.toNat b)) = Bool.false)) ∧ (Go.Sx.isnan (Int.toNat a) = Bool.false)) ∧ (Go.Sx.isnan (Int.toNat b) = Bool.false)) ∧ ((0 : Int) ≤ (1 : Int))) ∧ (((-9223372036854775808 : Int) ≤
  Go.Sx.bitsV Go.BinOp.and Go.IntKind.i64 (Go.Sx.rk (Int.toNat a)) (Go.Sx.rk (Int.toNat b)) +
    Int.fdiv (Go.Sx.bitsV Go.BinOp.xor Go.IntKind.i64 (Go.Sx.rk (Int.toNat a)) (Go.Sx.rk (Int.toNat b)))
      ((2 : Int) ^ Min.min (Int.toNat (1 : Int)) (Go.IntKind.bits Go.IntKind.i64))) ∧ (Go.Sx.bitsV Go.BinOp.and Go.IntKind.i64 (Go.Sx.rk (Int.toNat a)) (Go.Sx.rk (Int.toNat b)) +
    Int.fdiv (Go.Sx.bitsV Go.BinOp.xor Go.IntKind.i64 (Go.Sx.rk (Int.toNat a)) (Go.Sx.rk (Int.toNat b)))
      ((2 : Int) ^ Min.min (Int.toNat (1 : Int)) (Go.IntKind.bits Go.IntKind.i64)) ≤
  (9223372036854775807 : Int)))) ∧ (((-9218868437227405312 : Int) ≤
  Go.Sx.bitsV Go.BinOp.and Go.IntKind.i64 (Go.Sx.rk (Int.toNat a)) (Go.Sx.rk (Int.toNat b)) +
    Int.fdiv (Go.Sx.bitsV Go.BinOp.xor Go.IntKind.i64 (Go.Sx.rk (Int.toNat a)) (Go.Sx.rk (Int.toNat b)))
      ((2 : Int) ^ Min.min (Int.toNat (1 : Int)) (Go.IntKind.bits Go.IntKind.i64))) ∧ (Go.Sx.bitsV Go.BinOp.and Go.IntKind.i64 (Go.Sx.rk (Int.toNat a)) (Go.Sx.rk (Int.toNat b)) +
    Int.fdiv (Go.Sx.bitsV Go.BinOp.xor Go.IntKind.i64 (Go.Sx.rk (Int.toNat a)) (Go.Sx.rk (Int.toNat b)))
      ((2 : Int) ^ Min.min (Int.toNat (1 : Int)) (Go.IntKind.bits Go.IntKind.i64)) ≤
  (9218868437227405312 : Int)))) ∧ ((!Nat.beq
      (Go.Sx.cn
        (Go.Sx.wd
          (Go.Sx.bitsV Go.BinOp.and Go.IntKind.i64 (Go.Sx.rk (Int.toNat b)) (Go.Sx.rk (Int.toNat a)) +
            Int.fdiv (Go.Sx.bitsV Go.BinOp.xor Go.IntKind.i64 (Go.Sx.rk (Int.toNat b)) (Go.Sx.rk (Int.toNat a)))
              ((2 : Int) ^ Min.min (Int.toNat (1 : Int)) (Go.IntKind.bits Go.IntKind.i64)))))
      (Go.Sx.cn
        (Go.Sx.wd
          (Go.Sx.bitsV Go.BinOp.and Go.IntKind.i64 (Go.Sx.rk (Int.toNat a)) (Go.Sx.rk (Int.toNat b)) +
            Int.fdiv (Go.Sx.bitsV Go.BinOp.xor Go.IntKind.i64 (Go.Sx.rk (Int.toNat a)) (Go.Sx.rk (Int.toNat b)))
              ((2 : Int) ^ Min.min (Int.toNat (1 : Int)) (Go.IntKind.bits Go.IntKind.i64)))))) =
  Bool.false)) ∧ (Go.Sx.feq (Go.Sx.fsub (Go.Sx.cn (Int.toNat b)) (Go.Sx.cn (Int.toNat b))) (Go.Sx.cn (0 : Nat)) = Bool.true)) ∧ ((!Decidable.decide ((0 : Int) = (0 : Int)) ==
      Go.Sx.feq (Go.Sx.fsub (Go.Sx.cn (Int.toNat a)) (Go.Sx.cn (Int.toNat a))) (Go.Sx.cn (0 : Nat))) =
  Bool.false)) ∧ (Go.Sx.isnan (Int.toNat b) = Bool.false)) ∧ (Go.Sx.isnan (Int.toNat a) = Bool.false)) ∧ (Go.Sx.isnan
    (Go.Sx.wd
      (Go.Sx.bitsV Go.BinOp.and Go.IntKind.i64 (Go.Sx.rk (Int.toNat b)) (Go.Sx.rk (Int.toNat a)) +
        Int.fdiv (Go.Sx.bitsV Go.BinOp.xor Go.IntKind.i64 (Go.Sx.rk (Int.toNat b)) (Go.Sx.rk (Int.toNat a)))
          ((2 : Int) ^ Min.min (Int.toNat (1 : Int)) (Go.IntKind.bits Go.IntKind.i64)))) =
  Bool.false)) ∧ (Go.Sx.flt
    (Go.Sx.cn
      (Go.Sx.wd
        (Go.Sx.bitsV Go.BinOp.and Go.IntKind.i64 (Go.Sx.rk (Int.toNat b)) (Go.Sx.rk (Int.toNat a)) +
          Int.fdiv (Go.Sx.bitsV Go.BinOp.xor Go.IntKind.i64 (Go.Sx.rk (Int.toNat b)) (Go.Sx.rk (Int.toNat a)))
            ((2 : Int) ^ Min.min (Int.toNat (1 : Int)) (Go.IntKind.bits Go.IntKind.i64)))))
    (Go.Sx.cn (Int.toNat b)) =
  Bool.false)) ∧ (Go.Sx.fgt
    (Go.Sx.cn
      (Go.Sx.wd
        (Go.Sx.bitsV Go.BinOp.and Go.IntKind.i64 (Go.Sx.rk (Int.toNat b)) (Go.Sx.rk (Int.toNat a)) +
          Int.fdiv (Go.Sx.bitsV Go.BinOp.xor Go.IntKind.i64 (Go.Sx.rk (Int.toNat b)) (Go.Sx.rk (Int.toNat a)))
            ((2 : Int) ^ Min.min (Int.toNat (1 : Int)) (Go.IntKind.bits Go.IntKind.i64)))))
    (Go.Sx.cn (Int.toNat a)) =
  Bool.false)) ∧ (((-9223372036854775808 : Int) ≤
  Go.Sx.rk (Int.toNat a) -
    Go.Sx.rk
      (Go.Sx.wd
        (Go.Sx.bitsV Go.BinOp.and Go.IntKind.i64 (Go.Sx.rk (Int.toNat b)) (Go.Sx.rk (Int.toNat a)) +
          Int.fdiv (Go.Sx.bitsV Go.BinOp.xor Go.IntKind.i64 (Go.Sx.rk (Int.toNat b)) (Go.Sx.rk (Int.toNat a)))
            ((2 : Int) ^ Min.min (Int.toNat (1 : Int)) (Go.IntKind.bits Go.IntKind.i64))))) ∧ (Go.Sx.rk (Int.toNat a) -
    Go.Sx.rk
      (Go.Sx.wd
        (Go.Sx.bitsV Go.BinOp.and Go.IntKind.i64 (Go.Sx.rk (Int.toNat b)) (Go.Sx.rk (Int.toNat a)) +
          Int.fdiv (Go.Sx.bitsV Go.BinOp.xor Go.IntKind.i64 (Go.Sx.rk (Int.toNat b)) (Go.Sx.rk (Int.toNat a)))
            ((2 : Int) ^ Min.min (Int.toNat (1 : Int)) (Go.IntKind.bits Go.IntKind.i64)))) ≤
  (9223372036854775807 : Int)))) ∧ (((-9223372036854775808 : Int) ≤
  Go.Sx.rk
      (Go.Sx.wd
        (Go.Sx.bitsV Go.BinOp.and Go.IntKind.i64 (Go.Sx.rk (Int.toNat b)) (Go.Sx.rk (Int.toNat a)) +
          Int.fdiv (Go.Sx.bitsV Go.BinOp.xor Go.IntKind.i64 (Go.Sx.rk (Int.toNat b)) (Go.Sx.rk (Int.toNat a)))
            ((2 : Int) ^ Min.min (Int.toNat (1 : Int)) (Go.IntKind.bits Go.IntKind.i64)))) -
    Go.Sx.rk (Int.toNat b)) ∧ (Go.Sx.rk
      (Go.Sx.wd
        (Go.Sx.bitsV Go.BinOp.and Go.IntKind.i64 (Go.Sx.rk (Int.toNat b)) (Go.Sx.rk (Int.toNat a)) +
          Int.fdiv (Go.Sx.bitsV Go.BinOp.xor Go.IntKind.i64 (Go.Sx.rk (Int.toNat b)) (Go.Sx.rk (Int.toNat a)))
            ((2 : Int) ^ Min.min (Int.toNat (1 : Int)) (Go.IntKind.bits Go.IntKind.i64)))) -
    Go.Sx.rk (Int.toNat b) ≤
  (9223372036854775807 : Int)))) ∧ (Decidable.decide
    (Go.IntKind.wrap Go.IntKind.u64
        (Go.IntKind.wrap Go.IntKind.u64
            (Go.Sx.rk (Int.toNat a) -
              Go.Sx.rk
                (Go.Sx.wd
                  (Go.Sx.bitsV Go.BinOp.and Go.IntKind.i64 (Go.Sx.rk (Int.toNat b)) (Go.Sx.rk (Int.toNat a)) +
                    Int.fdiv (Go.Sx.bitsV Go.BinOp.xor Go.IntKind.i64 (Go.Sx.rk (Int.toNat b)) (Go.Sx.rk (Int.toNat a)))
                      ((2 : Int) ^ Min.min (Int.toNat (1 : Int)) (Go.IntKind.bits Go.IntKind.i64))))) -
          Go.IntKind.wrap Go.IntKind.u64
            (Go.Sx.rk
                (Go.Sx.wd
                  (Go.Sx.bitsV Go.BinOp.and Go.IntKind.i64 (Go.Sx.rk (Int.toNat b)) (Go.Sx.rk (Int.toNat a)) +
                    Int.fdiv (Go.Sx.bitsV Go.BinOp.xor Go.IntKind.i64 (Go.Sx.rk (Int.toNat b)) (Go.Sx.rk (Int.toNat a)))
                      ((2 : Int) ^ Min.min (Int.toNat (1 : Int)) (Go.IntKind.bits Go.IntKind.i64)))) -
              Go.Sx.rk (Int.toNat b))) =
      (0 : Int)) =
  Bool.false))) := by kernel_rfl
  exact ⟨by rw [e]; exact ⟨rfl, ⟨⟨⟨⟨⟨⟨⟨⟨⟨⟨⟨⟨⟨⟨⟨⟨⟨⟨⟨⟨⟨⟨⟨⟨⟨⟨⟨⟨trivial, ⟨c0, c1⟩⟩, ⟨c2, c3⟩⟩, c4⟩, c5⟩, c6⟩, c7⟩, c8⟩, c9⟩, ⟨c10, c11⟩⟩, ⟨c12, c13⟩⟩, c14⟩, c15⟩, c16⟩, c17⟩, c18⟩, ⟨c19, c20⟩⟩, ⟨c21, c22⟩⟩, c23⟩, c24⟩, c25⟩, c26⟩, c27⟩, c28⟩, c29⟩, c30⟩, ⟨c31, c32⟩⟩, ⟨c33, c34⟩⟩, c35⟩⟩⟩
theorem half_25 (a b : Int) (c0 : (0 : Int) ≤ a) (c1 : a < (18446744073709551616 : Int)) (c2 : (0 : Int) ≤ b) (c3 : b < (18446744073709551616 : Int)) (c4 : Go.Sx.flt (Go.Sx.cn (Int.toNat b)) (Go.Sx.cn (Int.toNat a)) = Bool.false) (c5 : (!Go.Sx.finD (Int.toNat a)) = Bool.true) (c6 : (!Go.Sx.finD (Int.toNat b)) = Bool.true) (c7 : Go.Sx.feq (Go.Sx.fsub (Go.Sx.cn (Int.toNat a)) (Go.Sx.cn (Int.toNat a))) (Go.Sx.cn (0 : Nat)) = Bool.false) : Go.Sx.PureP (Go.Sx.AV.bool Bool.true) (call2 5 [.int true .u64 a, .int true .u64 b] (Go.Sx.G.on [false, true, true, false])) := by
  have e : Go.Sx.pureP (Go.Sx.AV.bool Bool.true) (call2 5 [.int true .u64 a, .int true .u64 b] (Go.Sx.G.on [false, true, true, false])) = ((Go.Sx.AV.bool Bool.true) = (Go.Sx.AV.bool Bool.true) ∧ ((((((True ∧ (((0 : Int) ≤ a) ∧ (a < (18446744073709551616 : Int)))) ∧ (((0 : Int) ≤ b) ∧ (b < (18446744073709551616 : Int)))) ∧ (Go.Sx.flt (Go.Sx.cn (Int.toNat b)) (Go.Sx.cn (Int.toNat a)) = Bool.false)) ∧ ((!Go.Sx.finD (Int.toNat a)) = Bool.true)) ∧ ((!Go.Sx.finD (Int.toNat b)) = Bool.true)) ∧ (Go.Sx.feq (Go.Sx.fsub (Go.Sx.cn (Int.toNat a)) (Go.Sx.cn (Int.toNat a))) (Go.Sx.cn (0 : Nat)) = Bool.false))) := by kernel_rfl
  exact ⟨by rw [e]; exact ⟨rfl, ⟨⟨⟨⟨⟨⟨trivial, ⟨c0, c1⟩⟩, ⟨c2, c3⟩⟩, c4⟩, c5⟩, c6⟩, c7⟩⟩⟩
theorem half_28 (a b : Int) (c0 : (0 : Int) ≤ a) (c1 : a < (18446744073709551616 : Int)) (c2 : (0 : Int) ≤ b) (c3 : b < (18446744073709551616 : Int)) (c4 : Go.Sx.flt (Go.Sx.cn (Int.toNat b)) (Go.Sx.cn (Int.toNat a)) = Bool.false) (c5 : (!Go.Sx.finD (Int.toNat a)) = Bool.true) (c6 : (!Go.Sx.finD (Int.toNat b)) = Bool.false) (c7 : (!Go.Sx.finD (Int.toNat a)) = Bool.true) (c8 : Go.Sx.feq (Go.Sx.fsub (Go.Sx.cn (Int.toNat a)) (Go.Sx.cn (Int.toNat a))) (Go.Sx.cn (0 : Nat)) = Bool.false) : Go.Sx.PureP (Go.Sx.AV.bool Bool.true) (call2 5 [.int true .u64 a, .int true .u64 b] (Go.Sx.G.on [false, true, false, true, false])) := by
  have e : Go.Sx.pureP (Go.Sx.AV.bool Bool.true) (call2 5 [.int true .u64 a, .int true .u64 b] (Go.Sx.G.on [false, true, false, true, false])) = ((Go.Sx.AV.bool Bool.true) = (Go.Sx.AV.bool Bool.true) ∧ (((((((True ∧ (((0 : Int) ≤ a) ∧ (a < (18446744073709551616 : Int)))) ∧ (((0 : Int) ≤ b) ∧ (b < (18446744073709551616 : Int)))) ∧ (Go.Sx.flt (Go.Sx.cn (Int.toNat b)) (Go.Sx.cn (Int.toNat a)) = Bool.false)) ∧ ((!Go.Sx.finD (Int.toNat a)) = Bool.true)) ∧ ((!Go.Sx.finD (Int.toNat b)) = Bool.false)) ∧ ((!Go.Sx.finD (Int.toNat a)) = Bool.true)) ∧ (Go.Sx.feq (Go.Sx.fsub (Go.Sx.cn (Int.toNat a)) (Go.Sx.cn (Int.toNat a))) (Go.Sx.cn (0 : Nat)) = Bool.false))) := by kernel_rfl
  exact ⟨by rw [e]; exact ⟨rfl, ⟨⟨⟨⟨⟨⟨⟨trivial, ⟨c0, c1⟩⟩, ⟨c2, c3⟩⟩, c4⟩, c5⟩, c6⟩, c7⟩, c8⟩⟩⟩
theorem half_31 (a b : Int) (c0 : (0 : Int) ≤ a) (c1 : a < (18446744073709551616 : Int)) (c2 : (0 : Int) ≤ b) (c3 : b < (18446744073709551616 : Int)) (c4 : Go.Sx.flt (Go.Sx.cn (Int.toNat b)) (Go.Sx.cn (Int.toNat a)) = Bool.false) (c5 : (!Go.Sx.finD (Int.toNat a)) = Bool.false) (c6 : (!Go.Sx.finD (Int.toNat b)) = Bool.true) (c7 : (!Go.Sx.finD (Int.toNat b)) = Bool.true) (c8 : Go.Sx.feq (Go.Sx.fsub (Go.Sx.cn (Int.toNat a)) (Go.Sx.cn (Int.toNat a))) (Go.Sx.cn (0 : Nat)) = Bool.true) (c9 : (!Decidable.decide ((5 : Int) = (0 : Int)) ==
      Go.Sx.feq (Go.Sx.fsub (Go.Sx.cn (Int.toNat b)) (Go.Sx.cn (Int.toNat b))) (Go.Sx.cn (0 : Nat))) =
  Bool.false) : Go.Sx.PureP (Go.Sx.AV.bool Bool.true) (call2 5 [.int true .u64 a, .int true .u64 b] (Go.Sx.G.on [false, false, true, true, true, false])) := by
  have e : Go.Sx.pureP (Go.Sx.AV.bool Bool.true) (call2 5 [.int true .u64 a, .int true .u64 b] (Go.Sx.G.on [false, false, true, true, true, false])) = ((Go.Sx.AV.bool Bool.true) = (Go.Sx.AV.bool Bool.true) ∧ ((((((((True ∧ (((0 : Int) ≤ a) ∧ (a < (18446744073709551616 : Int)))) ∧ (((0 : Int) ≤ b) ∧ (b < (18446744073709551616 : Int)))) ∧ (Go.Sx.flt (Go.Sx.cn (Int.toNat b)) (Go.Sx.cn (Int.toNat a)) = Bool.false)) ∧ ((!Go.Sx.finD (Int.toNat a)) = Bool.false)) ∧ ((!Go.Sx.finD (Int.toNat b)) = Bool.true)) ∧ ((!Go.Sx.finD (Int.toNat b)) = Bool.true)) ∧ (Go.Sx.feq (Go.Sx.fsub (Go.Sx.cn (Int.toNat a)) (Go.Sx.cn (Int.toNat a))) (Go.Sx.cn (0 : Nat)) = Bool.true)) ∧ ((!Decidable.decide ((5 : Int) = (0 : Int)) ==
      Go.Sx.feq (Go.Sx.fsub (Go.Sx.cn (Int.toNat b)) (Go.Sx.cn (Int.toNat b))) (Go.Sx.cn (0 : Nat))) =
  Bool.false))) := by kernel_rfl
  exact ⟨by rw [e]; exact ⟨rfl, ⟨⟨⟨⟨⟨⟨⟨⟨trivial, ⟨c0, c1⟩⟩, ⟨c2, c3⟩⟩, c4⟩, c5⟩, c6⟩, c7⟩, c8⟩, c9⟩⟩⟩
theorem half_43 (a b : Int) (c0 : (0 : Int) ≤ a) (c1 : a < (18446744073709551616 : Int)) (c2 : (0 : Int) ≤ b) (c3 : b < (18446744073709551616 : Int)) (c4 : Go.Sx.flt (Go.Sx.cn (Int.toNat b)) (Go.Sx.cn (Int.toNat a)) = Bool.false) (c5 : (!Go.Sx.finD (Int.toNat a)) = Bool.false) (c6 : (!Go.Sx.finD (Int.toNat b)) = Bool.false) (c7 : Go.Sx.isnan (Int.toNat a) = Bool.false) (c8 : Go.Sx.isnan (Int.toNat b) = Bool.false) (c9 : (0 : Int) ≤ (1 : Int)) (c10 : (-9223372036854775808 : Int) ≤
  Go.Sx.bitsV Go.BinOp.and Go.IntKind.i64 (Go.Sx.rk (Int.toNat a)) (Go.Sx.rk (Int.toNat b)) +
    Int.fdiv (Go.Sx.bitsV Go.BinOp.xor Go.IntKind.i64 (Go.Sx.rk (Int.toNat a)) (Go.Sx.rk (Int.toNat b)))
      ((2 : Int) ^ Min.min (Int.toNat (1 : Int)) (Go.IntKind.bits Go.IntKind.i64))) (c11 : Go.Sx.bitsV Go.BinOp.and Go.IntKind.i64 (Go.Sx.rk (Int.toNat a)) (Go.Sx.rk (Int.toNat b)) +
    Int.fdiv (Go.Sx.bitsV Go.BinOp.xor Go.IntKind.i64 (Go.Sx.rk (Int.toNat a)) (Go.Sx.rk (Int.toNat b)))
      ((2 : Int) ^ Min.min (Int.toNat (1 : Int)) (Go.IntKind.bits Go.IntKind.i64)) ≤
  (9223372036854775807 : Int)) (c12 : (-9218868437227405312 : Int) ≤
  Go.Sx.bitsV Go.BinOp.and Go.IntKind.i64 (Go.Sx.rk (Int.toNat a)) (Go.Sx.rk (Int.toNat b)) +
    Int.fdiv (Go.Sx.bitsV Go.BinOp.xor Go.IntKind.i64 (Go.Sx.rk (Int.toNat a)) (Go.Sx.rk (Int.toNat b)))
      ((2 : Int) ^ Min.min (Int.toNat (1 : Int)) (Go.IntKind.bits Go.IntKind.i64))) (c13 : Go.Sx.bitsV Go.BinOp.and Go.IntKind.i64 (Go.Sx.rk (Int.toNat a)) (Go.Sx.rk (Int.toNat b)) +
    Int.fdiv (Go.Sx.bitsV Go.BinOp.xor Go.IntKind.i64 (Go.Sx.rk (Int.toNat a)) (Go.Sx.rk (Int.toNat b)))
      ((2 : Int) ^ Min.min (Int.toNat (1 : Int)) (Go.IntKind.bits Go.IntKind.i64)) ≤
  (9218868437227405312 : Int)) (c14 : (!Go.Sx.finD (Int.toNat b)) = Bool.false) (c15 : (!Go.Sx.finD (Int.toNat a)) = Bool.false) (c16 : Go.Sx.isnan (Int.toNat b) = Bool.false) (c17 : Go.Sx.isnan (Int.toNat a) = Bool.false) (c18 : (0 : Int) ≤ (1 : Int)) (c19 : (-9223372036854775808 : Int) ≤
  Go.Sx.bitsV Go.BinOp.and Go.IntKind.i64 (Go.Sx.rk (Int.toNat b)) (Go.Sx.rk (Int.toNat a)) +
    Int.fdiv (Go.Sx.bitsV Go.BinOp.xor Go.IntKind.i64 (Go.Sx.rk (Int.toNat b)) (Go.Sx.rk (Int.toNat a)))
      ((2 : Int) ^ Min.min (Int.toNat (1 : Int)) (Go.IntKind.bits Go.IntKind.i64))) (c20 : Go.Sx.bitsV Go.BinOp.and Go.IntKind.i64 (Go.Sx.rk (Int.toNat b)) (Go.Sx.rk (Int.toNat a)) +
    Int.fdiv (Go.Sx.bitsV Go.BinOp.xor Go.IntKind.i64 (Go.Sx.rk (Int.toNat b)) (Go.Sx.rk (Int.toNat a)))
      ((2 : Int) ^ Min.min (Int.toNat (1 : Int)) (Go.IntKind.bits Go.IntKind.i64)) ≤
  (9223372036854775807 : Int)) (c21 : (-9218868437227405312 : Int) ≤
  Go.Sx.bitsV Go.BinOp.and Go.IntKind.i64 (Go.Sx.rk (Int.toNat b)) (Go.Sx.rk (Int.toNat a)) +
    Int.fdiv (Go.Sx.bitsV Go.BinOp.xor Go.IntKind.i64 (Go.Sx.rk (Int.toNat b)) (Go.Sx.rk (Int.toNat a)))
      ((2 : Int) ^ Min.min (Int.toNat (1 : Int)) (Go.IntKind.bits Go.IntKind.i64))) (c22 : Go.Sx.bitsV Go.BinOp.and Go.IntKind.i64 (Go.Sx.rk (Int.toNat b)) (Go.Sx.rk (Int.toNat a)) +
    Int.fdiv (Go.Sx.bitsV Go.BinOp.xor Go.IntKind.i64 (Go.Sx.rk (Int.toNat b)) (Go.Sx.rk (Int.toNat a)))
      ((2 : Int) ^ Min.min (Int.toNat (1 : Int)) (Go.IntKind.bits Go.IntKind.i64)) ≤
  (9218868437227405312 : Int)) (c23 : (!Nat.beq
      (Go.Sx.cn
        (Go.Sx.wd
          (Go.Sx.bitsV Go.BinOp.and Go.IntKind.i64 (Go.Sx.rk (Int.toNat a)) (Go.Sx.rk (Int.toNat b)) +
            Int.fdiv (Go.Sx.bitsV Go.BinOp.xor Go.IntKind.i64 (Go.Sx.rk (Int.toNat a)) (Go.Sx.rk (Int.toNat b)))
              ((2 : Int) ^ Min.min (Int.toNat (1 : Int)) (Go.IntKind.bits Go.IntKind.i64)))))
      (Go.Sx.cn
        (Go.Sx.wd
          (Go.Sx.bitsV Go.BinOp.and Go.IntKind.i64 (Go.Sx.rk (Int.toNat b)) (Go.Sx.rk (Int.toNat a)) +
            Int.fdiv (Go.Sx.bitsV Go.BinOp.xor Go.IntKind.i64 (Go.Sx.rk (Int.toNat b)) (Go.Sx.rk (Int.toNat a)))
              ((2 : Int) ^ Min.min (Int.toNat (1 : Int)) (Go.IntKind.bits Go.IntKind.i64)))))) =
  Bool.false) (c24 : Go.Sx.feq (Go.Sx.fsub (Go.Sx.cn (Int.toNat a)) (Go.Sx.cn (Int.toNat a))) (Go.Sx.cn (0 : Nat)) = Bool.true) (c25 : (!Decidable.decide ((0 : Int) = (0 : Int)) ==
      Go.Sx.feq (Go.Sx.fsub (Go.Sx.cn (Int.toNat b)) (Go.Sx.cn (Int.toNat b))) (Go.Sx.cn (0 : Nat))) =
  Bool.false) (c26 : Go.Sx.isnan (Int.toNat a) = Bool.false) (c27 : Go.Sx.isnan (Int.toNat b) = Bool.false) (c28 : Go.Sx.isnan
    (Go.Sx.wd
      (Go.Sx.bitsV Go.BinOp.and Go.IntKind.i64 (Go.Sx.rk (Int.toNat a)) (Go.Sx.rk (Int.toNat b)) +
        Int.fdiv (Go.Sx.bitsV Go.BinOp.xor Go.IntKind.i64 (Go.Sx.rk (Int.toNat a)) (Go.Sx.rk (Int.toNat b)))
          ((2 : Int) ^ Min.min (Int.toNat (1 : Int)) (Go.IntKind.bits Go.IntKind.i64)))) =
  Bool.false) (c29 : Go.Sx.flt
    (Go.Sx.cn
      (Go.Sx.wd
        (Go.Sx.bitsV Go.BinOp.and Go.IntKind.i64 (Go.Sx.rk (Int.toNat a)) (Go.Sx.rk (Int.toNat b)) +
          Int.fdiv (Go.Sx.bitsV Go.BinOp.xor Go.IntKind.i64 (Go.Sx.rk (Int.toNat a)) (Go.Sx.rk (Int.toNat b)))
            ((2 : Int) ^ Min.min (Int.toNat (1 : Int)) (Go.IntKind.bits Go.IntKind.i64)))))
    (Go.Sx.cn (Int.toNat a)) =
  Bool.false) (c30 : Go.Sx.fgt
    (Go.Sx.cn
      (Go.Sx.wd
        (Go.Sx.bitsV Go.BinOp.and Go.IntKind.i64 (Go.Sx.rk (Int.toNat a)) (Go.Sx.rk (Int.toNat b)) +
          Int.fdiv (Go.Sx.bitsV Go.BinOp.xor Go.IntKind.i64 (Go.Sx.rk (Int.toNat a)) (Go.Sx.rk (Int.toNat b)))
            ((2 : Int) ^ Min.min (Int.toNat (1 : Int)) (Go.IntKind.bits Go.IntKind.i64)))))
    (Go.Sx.cn (Int.toNat b)) =
  Bool.false) (c31 : (-9223372036854775808 : Int) ≤
  Go.Sx.rk (Int.toNat b) -
    Go.Sx.rk
      (Go.Sx.wd
        (Go.Sx.bitsV Go.BinOp.and Go.IntKind.i64 (Go.Sx.rk (Int.toNat a)) (Go.Sx.rk (Int.toNat b)) +
          Int.fdiv (Go.Sx.bitsV Go.BinOp.xor Go.IntKind.i64 (Go.Sx.rk (Int.toNat a)) (Go.Sx.rk (Int.toNat b)))
            ((2 : Int) ^ Min.min (Int.toNat (1 : Int)) (Go.IntKind.bits Go.IntKind.i64))))) (c32 : Go.Sx.rk (Int.toNat b) -
    Go.Sx.rk
      (Go.Sx.wd
        (Go.Sx.bitsV Go.BinOp.and Go.IntKind.i64 (Go.Sx.rk (Int.toNat a)) (Go.Sx.rk (Int.toNat b)) +
          Int.fdiv (Go.Sx.bitsV Go.BinOp.xor Go.IntKind.i64 (Go.Sx.rk (Int.toNat a)) (Go.Sx.rk (Int.toNat b)))
            ((2 : Int) ^ Min.min (Int.toNat (1 : Int)) (Go.IntKind.bits Go.IntKind.i64)))) ≤
  (9223372036854775807 : Int)) (c33 : (-9223372036854775808 : Int) ≤
  Go.Sx.rk
      (Go.Sx.wd
        (Go.Sx.bitsV Go.BinOp.and Go.IntKind.i64 (Go.Sx.rk (Int.toNat a)) (Go.Sx.rk (Int.toNat b)) +
          Int.fdiv (Go.Sx.bitsV Go.BinOp.xor Go.IntKind.i64 (Go.Sx.rk (Int.toNat a)) (Go.Sx.rk (Int.toNat b)))
            ((2 : Int) ^ Min.min (Int.toNat (1 : Int)) (Go.IntKind.bits Go.IntKind.i64)))) -
    Go.Sx.rk (Int.toNat a)) (c34 : Go.Sx.rk
      (Go.Sx.wd
        (Go.Sx.bitsV Go.BinOp.and Go.IntKind.i64 (Go.Sx.rk (Int.toNat a)) (Go.Sx.rk (Int.toNat b)) +
          Int.fdiv (Go.Sx.bitsV Go.BinOp.xor Go.IntKind.i64 (Go.Sx.rk (Int.toNat a)) (Go.Sx.rk (Int.toNat b)))
            ((2 : Int) ^ Min.min (Int.toNat (1 : Int)) (Go.IntKind.bits Go.IntKind.i64)))) -
    Go.Sx.rk (Int.toNat a) ≤
  (9223372036854775807 : Int)) (c35 : Decidable.decide
    (Go.IntKind.wrap Go.IntKind.u64
        (Go.IntKind.wrap Go.IntKind.u64
            (Go.Sx.rk (Int.toNat b) -
              Go.Sx.rk
                (Go.Sx.wd
                  (Go.Sx.bitsV Go.BinOp.and Go.IntKind.i64 (Go.Sx.rk (Int.toNat a)) (Go.Sx.rk (Int.toNat b)) +
                    Int.fdiv (Go.Sx.bitsV Go.BinOp.xor Go.IntKind.i64 (Go.Sx.rk (Int.toNat a)) (Go.Sx.rk (Int.toNat b)))
                      ((2 : Int) ^ Min.min (Int.toNat (1 : Int)) (Go.IntKind.bits Go.IntKind.i64))))) -
          Go.IntKind.wrap Go.IntKind.u64
            (Go.Sx.rk
                (Go.Sx.wd
                  (Go.Sx.bitsV Go.BinOp.and Go.IntKind.i64 (Go.Sx.rk (Int.toNat a)) (Go.Sx.rk (Int.toNat b)) +
                    Int.fdiv (Go.Sx.bitsV Go.BinOp.xor Go.IntKind.i64 (Go.Sx.rk (Int.toNat a)) (Go.Sx.rk (Int.toNat b)))
                      ((2 : Int) ^ Min.min (Int.toNat (1 : Int)) (Go.IntKind.bits Go.IntKind.i64)))) -
              Go.Sx.rk (Int.toNat a))) =
      (0 : Int)) =
  Bool.true) : Go.Sx.PureP (Go.Sx.AV.bool Bool.true) (call2 5 [.int true .u64 a, .int true .u64 b] (Go.Sx.G.on [false, false, false, false, false, false, true, false, false, false, true])) := by
  have e : Go.Sx.pureP (Go.Sx.AV.bool Bool.true) (call2 5 [.int true .u64 a, .int true .u64 b] (Go.Sx.G.on [false, false, false, false, false, false, true, false, false, false, true])) = ((Go.Sx.AV.bool Bool.true) = (Go.Sx.AV.bool Bool.true) ∧ ((((((((((((((((((((((((((((True ∧ (((0 : Int) ≤ a) ∧ (a < (18446744073709551616 : Int)))) ∧ (((0 : Int) ≤ b) ∧ (b < (18446744073709551616 : Int)))) ∧ (Go.Sx.flt (Go.Sx.cn (Int.toNat b)) (Go.Sx.cn (Int.toNat a)) = Bool.false)) ∧ ((!Go.Sx.finD (Int.toNat a)) = Bool.false)) ∧ ((!Go.Sx.finD (Int.toNat b)) = Bool.false)) ∧ (Go.Sx.isnan (Int.toNat a) = Bool.false)) ∧ (Go.Sx.isnan (Int.toNat b) = Bool.false)) ∧ ((0 : Int) ≤ (1 : Int))) ∧ (((-9223372036854775808 : Int) ≤
  Go.Sx.bitsV Go.BinOp.and Go.IntKind.i64 (Go.Sx.rk (Int.toNat a)) (Go.Sx.rk (Int.toNat b)) +
    Int.fdiv (Go.Sx.bitsV Go.BinOp.xor Go.IntKind.i64 (Go.Sx.rk (Int.toNat a)) (Go.Sx.rk (Int.toNat b)))
      ((2 : Int) ^ Min.min (Int.toNat (1 : Int)) (Go.IntKind.bits Go.IntKind.i64))) ∧ (Go.Sx.bitsV Go.BinOp.and Go.IntKind.i64 (Go.Sx.rk (Int.toNat a)) (Go.Sx.rk (Int.toNat b)) +
    Int.fdiv (Go.Sx.bitsV Go.BinOp.xor Go.IntKind.i64 (Go.Sx.rk (Int.toNat a)) (Go.Sx.rk (Int.toNat b)))
      ((2 : Int) ^ Min.min (Int.toNat (1 : Int)) (Go.IntKind.bits Go.IntKind.i64)) ≤
  (9223372036854775807 : Int)))) ∧ (((-9218868437227405312 : Int) ≤
  Go.Sx.bitsV Go.BinOp.and Go.IntKind.i64 (Go.Sx.rk (Int.toNat a)) (Go.Sx.rk (Int.toNat b)) +
    Int.fdiv (Go.Sx.bitsV Go.BinOp.xor Go.IntKind.i64 (Go.Sx.rk (Int.toNat a)) (Go.Sx.rk (Int.toNat b)))
      ((2 : Int) ^ Min.min (Int.toNat (1 : Int)) (Go.IntKind.bits Go.IntKind.i64))) ∧ (Go.Sx.bitsV Go.BinOp.and Go.IntKind.i64 (Go.Sx.rk (Int.toNat a)) (Go.Sx.rk (Int.toNat b)) +
    Int.fdiv (Go.Sx.bitsV Go.BinOp.xor Go.IntKind.i64 (Go.Sx.rk (Int.toNat a)) (Go.Sx.rk (Int.toNat b)))
      ((2 : Int) ^ Min.min (Int.toNat (1 : Int)) (Go.IntKind.bits Go.IntKind.i64)) ≤
  (9218868437227405312 : Int)))) ∧ ((!Go.Sx.finD (Int.toNat b)) = Bool.false)) ∧ ((!Go.Sx.finD (Int.toNat a)) = Bool.false)) ∧ (Go.Sx.isnan (Int.toNat b) = Bool.false)) ∧ (Go.Sx.isnan (Int.toNat a) = Bool.false)) ∧ ((0 : Int) ≤ (1 : Int))) ∧ (((-9223372036854775808 : Int) ≤
  Go.Sx.bitsV Go.BinOp.and Go.IntKind.i64 (Go.Sx.rk (Int.toNat b)) (Go.Sx.rk (Int.toNat a)) +
    Int.fdiv (Go.Sx.bitsV Go.BinOp.xor Go.IntKind.i64 (Go.Sx.rk (Int.toNat b)) (Go.Sx.rk (Int.toNat a)))
      ((2 : Int) ^ Min.min (Int.toNat (1 : Int)) (Go.IntKind.bits Go.IntKind.i64))) ∧ (Go.Sx.bitsV Go.BinOp.and Go.IntKind.i64 (Go.Sx.rk (Int.toNat b)) (Go.Sx.rk (Int.toNat a)) +
    Int.fdiv (Go.Sx.bitsV Go.BinOp.xor Go.IntKind.i64 (Go.Sx.rk (Int.toNat b)) (Go.Sx.rk (Int.toNat a)))
      ((2 : Int) ^ Min.min (Int.toNat (1 : Int)) (Go.IntKind.bits Go.IntKind.i64)) ≤
  (9223372036854775807 : Int)))) ∧ (((-9218868437227405312 : Int) ≤
  Go.Sx.bitsV Go.BinOp.and Go.IntKind.i64 (Go.Sx.rk (Int.toNat b)) (Go.Sx.rk (Int.toNat a)) +
    Int.fdiv (Go.Sx.bitsV Go.BinOp.xor Go.IntKind.i64 (Go.Sx.rk (Int.toNat b)) (Go.Sx.rk (Int.toNat a)))
      ((2 : Int) ^ Min.min (Int.toNat (1 : Int)) (Go.IntKind.bits Go.IntKind.i64))) ∧ (Go.Sx.bitsV Go.BinOp.and Go.IntKind.i64 (Go.Sx.rk (Int.toNat b)) (Go.Sx.rk (Int.toNat a)) +
    Int.fdiv (Go.Sx.bitsV Go.BinOp.xor Go.IntKind.i64 (Go.Sx.rk (Int.toNat b)) (Go.Sx.rk (Int.toNat a)))
      ((2 : Int) ^ Min.min (Int.toNat (1 : Int)) (Go.IntKind.bits Go.IntKind.i64)) ≤
  (9218868437227405312 : Int)))) ∧ ((!Nat.beq
      (Go.Sx.cn
        (Go.Sx.wd
          (Go.Sx.bitsV Go.BinOp.and Go.IntKind.i64 (Go.Sx.rk (Int.toNat a)) (Go.Sx.rk (Int.toNat b)) +
            Int.fdiv (Go.Sx.bitsV Go.BinOp.xor Go.IntKind.i64 (Go.Sx.rk (Int.toNat a)) (Go.Sx.rk (Int.toNat b)))
              ((2 : Int) ^ Min.min (Int.toNat (1 : Int)) (Go.IntKind.bits Go.IntKind.i64)))))
      (Go.Sx.cn
        (Go.Sx.wd
          (Go.Sx.bitsV Go.BinOp.and Go.IntKind.i64 (Go.Sx.rk (Int.toNat b)) (Go.Sx.rk (Int.toNat a)) +
            Int.fdiv (Go.Sx.bitsV Go.BinOp.xor Go.IntKind.i64 (Go.Sx.rk (Int.toNat b)) (Go.Sx.rk (Int.toNat a)))
              ((2 : Int) ^ Min.min (Int.toNat (1 : Int)) (Go.IntKind.bits Go.IntKind.i64)))))) =
  Bool.false)) ∧ (Go.Sx.feq (Go.Sx.fsub (Go.Sx.cn (Int.toNat a)) (Go.Sx.cn (Int.toNat a))) (Go.Sx.cn (0 : Nat)) = Bool.true)) ∧ ((!Decidable.decide ((0 : Int) = (0 : Int)) ==
      Go.Sx.feq (Go.Sx.fsub (Go.Sx.cn (Int.toNat b)) (Go.Sx.cn (Int.toNat b))) (Go.Sx.cn (0 : Nat))) =
  Bool.false)) ∧ (Go.Sx.isnan (Int.toNat a) = Bool.false)) ∧ (Go.Sx.isnan (Int.toNat b) = Bool.false)) ∧ (Go.Sx.isnan
    (Go.Sx.wd
      (Go.Sx.bitsV Go.BinOp.and Go.IntKind.i64 (Go.Sx.rk (Int.toNat a)) (Go.Sx.rk (Int.toNat b)) +
        Int.fdiv (Go.Sx.bitsV Go.BinOp.xor Go.IntKind.i64 (Go.Sx.rk (Int.toNat a)) (Go.Sx.rk (Int.toNat b)))
          ((2 : Int) ^ Min.min (Int.toNat (1 : Int)) (Go.IntKind.bits Go.IntKind.i64)))) =
  Bool.false)) ∧ (Go.Sx.flt
    (Go.Sx.cn
      (Go.Sx.wd
        (Go.Sx.bitsV Go.BinOp.and Go.IntKind.i64 (Go.Sx.rk (Int.toNat a)) (Go.Sx.rk (Int.toNat b)) +
          Int.fdiv (Go.Sx.bitsV Go.BinOp.xor Go.IntKind.i64 (Go.Sx.rk (Int.toNat a)) (Go.Sx.rk (Int.toNat b)))
            ((2 : Int) ^ Min.min (Int.toNat (1 : Int)) (Go.IntKind.bits Go.IntKind.i64)))))
    (Go.Sx.cn (Int.toNat a)) =
  Bool.false)) ∧ (Go.Sx.fgt
    (Go.Sx.cn
      (Go.Sx.wd
        (Go.Sx.bitsV Go.BinOp.and Go.IntKind.i64 (Go.Sx.rk (Int.toNat a)) (Go.Sx.rk (Int.toNat b)) +
          Int.fdiv (Go.Sx.bitsV Go.BinOp.xor Go.IntKind.i64 (Go.Sx.rk (Int.toNat a)) (Go.Sx.rk (Int.toNat b)))
            ((2 : Int) ^ Min.min (Int.toNat (1 : Int)) (Go.IntKind.bits Go.IntKind.i64)))))
    (Go.Sx.cn (Int.toNat b)) =
  Bool.false)) ∧ (((-9223372036854775808 : Int) ≤
  Go.Sx.rk (Int.toNat b) -
    Go.Sx.rk
      (Go.Sx.wd
        (Go.Sx.bitsV Go.BinOp.and Go.IntKind.i64 (Go.Sx.rk (Int.toNat a)) (Go.Sx.rk (Int.toNat b)) +
          Int.fdiv (Go.Sx.bitsV Go.BinOp.xor Go.IntKind.i64 (Go.Sx.rk (Int.toNat a)) (Go.Sx.rk (Int.toNat b)))
            ((2 : Int) ^ Min.min (Int.toNat (1 : Int)) (Go.IntKind.bits Go.IntKind.i64))))) ∧ (Go.Sx.rk (Int.toNat b) -
    Go.Sx.rk
      (Go.Sx.wd
        (Go.Sx.bitsV Go.BinOp.and Go.IntKind.i64 (Go.Sx.rk (Int.toNat a)) (Go.Sx.rk (Int.toNat b)) +
          Int.fdiv (Go.Sx.bitsV Go.BinOp.xor Go.IntKind.i64 (Go.Sx.rk (Int.toNat a)) (Go.Sx.rk (Int.toNat b)))
            ((2 : Int) ^ Min.min (Int.toNat (1 : Int)) (Go.IntKind.bits Go.IntKind.i64)))) ≤
  (9223372036854775807 : Int)))) ∧ (((-9223372036854775808 : Int) ≤
  Go.Sx.rk
      (Go.Sx.wd
        (Go.Sx.bitsV Go.BinOp.and Go.IntKind.i64 (Go.Sx.rk (Int.toNat a)) (Go.Sx.rk (Int.toNat b)) +
          Int.fdiv (Go.Sx.bitsV Go.BinOp.xor Go.IntKind.i64 (Go.Sx.rk (Int.toNat a)) (Go.Sx.rk (Int.toNat b)))
            ((2 : Int) ^ Min.min (Int.toNat (1 : Int)) (Go.IntKind.bits Go.IntKind.i64)))) -
    Go.Sx.rk (Int.toNat a)) ∧ (Go.Sx.rk
      (Go.Sx.wd
        (Go.Sx.bitsV Go.BinOp.and Go.IntKind.i64 (Go.Sx.rk (Int.toNat a)) (Go.Sx.rk (Int.toNat b)) +
          Int.fdiv (Go.Sx.bitsV Go.BinOp.xor Go.IntKind.i64 (Go.Sx.rk (Int.toNat a)) (Go.Sx.rk (Int.toNat b)))
            ((2 : Int) ^ Min.min (Int.toNat (1 : Int)) (Go.IntKind.bits Go.IntKind.i64)))) -
    Go.Sx.rk (Int.toNat a) ≤
  (9223372036854775807 : Int)))) ∧ (Decidable.decide
    (Go.IntKind.wrap Go.IntKind.u64
        (Go.IntKind.wrap Go.IntKind.u64
            (Go.Sx.rk (Int.toNat b) -
              Go.Sx.rk
                (Go.Sx.wd
                  (Go.Sx.bitsV Go.BinOp.and Go.IntKind.i64 (Go.Sx.rk (Int.toNat a)) (Go.Sx.rk (Int.toNat b)) +
                    Int.fdiv (Go.Sx.bitsV Go.BinOp.xor Go.IntKind.i64 (Go.Sx.rk (Int.toNat a)) (Go.Sx.rk (Int.toNat b)))
                      ((2 : Int) ^ Min.min (Int.toNat (1 : Int)) (Go.IntKind.bits Go.IntKind.i64))))) -
          Go.IntKind.wrap Go.IntKind.u64
            (Go.Sx.rk
                (Go.Sx.wd
                  (Go.Sx.bitsV Go.BinOp.and Go.IntKind.i64 (Go.Sx.rk (Int.toNat a)) (Go.Sx.rk (Int.toNat b)) +
                    Int.fdiv (Go.Sx.bitsV Go.BinOp.xor Go.IntKind.i64 (Go.Sx.rk (Int.toNat a)) (Go.Sx.rk (Int.toNat b)))
                      ((2 : Int) ^ Min.min (Int.toNat (1 : Int)) (Go.IntKind.bits Go.IntKind.i64)))) -
              Go.Sx.rk (Int.toNat a))) =
      (0 : Int)) =
  Bool.true))) := by kernel_rfl
  exact ⟨by rw [e]; exact ⟨rfl, ⟨⟨⟨⟨⟨⟨⟨⟨⟨⟨⟨⟨⟨⟨⟨⟨⟨⟨⟨⟨⟨⟨⟨⟨⟨⟨⟨⟨trivial, ⟨c0, c1⟩⟩, ⟨c2, c3⟩⟩, c4⟩, c5⟩, c6⟩, c7⟩, c8⟩, c9⟩, ⟨c10, c11⟩⟩, ⟨c12, c13⟩⟩, c14⟩, c15⟩, c16⟩, c17⟩, c18⟩, ⟨c19, c20⟩⟩, ⟨c21, c22⟩⟩, c23⟩, c24⟩, c25⟩, c26⟩, c27⟩, c28⟩, c29⟩, c30⟩, ⟨c31, c32⟩⟩, ⟨c33, c34⟩⟩, c35⟩⟩⟩
theorem half_44 (a b : Int) (c0 : (0 : Int) ≤ a) (c1 : a < (18446744073709551616 : Int)) (c2 : (0 : Int) ≤ b) (c3 : b < (18446744073709551616 : Int)) (c4 : Go.Sx.flt (Go.Sx.cn (Int.toNat b)) (Go.Sx.cn (Int.toNat a)) = Bool.false) (c5 : (!Go.Sx.finD (Int.toNat a)) = Bool.false) (c6 : (!Go.Sx.finD (Int.toNat b)) = Bool.false) (c7 : Go.Sx.isnan (Int.toNat a) = Bool.false) (c8 : Go.Sx.isnan (Int.toNat b) = Bool.false) (c9 : (0 : Int) ≤ (1 : Int)) (c10 : (-9223372036854775808 : Int) ≤
  Go.Sx.bitsV Go.BinOp.and Go.IntKind.i64 (Go.Sx.rk (Int.toNat a)) (Go.Sx.rk (Int.toNat b)) +
    Int.fdiv (Go.Sx.bitsV Go.BinOp.xor Go.IntKind.i64 (Go.Sx.rk (Int.toNat a)) (Go.Sx.rk (Int.toNat b)))
      ((2 : Int) ^ Min.min (Int.toNat (1 : Int)) (Go.IntKind.bits Go.IntKind.i64))) (c11 : Go.Sx.bitsV Go.BinOp.and Go.IntKind.i64 (Go.Sx.rk (Int.toNat a)) (Go.Sx.rk (Int.toNat b)) +
    Int.fdiv (Go.Sx.bitsV Go.BinOp.xor Go.IntKind.i64 (Go.Sx.rk (Int.toNat a)) (Go.Sx.rk (Int.toNat b)))
      ((2 : Int) ^ Min.min (Int.toNat (1 : Int)) (Go.IntKind.bits Go.IntKind.i64)) ≤
  (9223372036854775807 : Int)) (c12 : (-9218868437227405312 : Int) ≤
  Go.Sx.bitsV Go.BinOp.and Go.IntKind.i64 (Go.Sx.rk (Int.toNat a)) (Go.Sx.rk (Int.toNat b)) +
    Int.fdiv (Go.Sx.bitsV Go.BinOp.xor Go.IntKind.i64 (Go.Sx.rk (Int.toNat a)) (Go.Sx.rk (Int.toNat b)))
      ((2 : Int) ^ Min.min (Int.toNat (1 : Int)) (Go.IntKind.bits Go.IntKind.i64))) (c13 : Go.Sx.bitsV Go.BinOp.and Go.IntKind.i64 (Go.Sx.rk (Int.toNat a)) (Go.Sx.rk (Int.toNat b)) +
    Int.fdiv (Go.Sx.bitsV Go.BinOp.xor Go.IntKind.i64 (Go.Sx.rk (Int.toNat a)) (Go.Sx.rk (Int.toNat b)))
      ((2 : Int) ^ Min.min (Int.toNat (1 : Int)) (Go.IntKind.bits Go.IntKind.i64)) ≤
  (9218868437227405312 : Int)) (c14 : (!Go.Sx.finD (Int.toNat b)) = Bool.false) (c15 : (!Go.Sx.finD (Int.toNat a)) = Bool.false) (c16 : Go.Sx.isnan (Int.toNat b) = Bool.false) (c17 : Go.Sx.isnan (Int.toNat a) = Bool.false) (c18 : (0 : Int) ≤ (1 : Int)) (c19 : (-9223372036854775808 : Int) ≤
  Go.Sx.bitsV Go.BinOp.and Go.IntKind.i64 (Go.Sx.rk (Int.toNat b)) (Go.Sx.rk (Int.toNat a)) +
    Int.fdiv (Go.Sx.bitsV Go.BinOp.xor Go.IntKind.i64 (Go.Sx.rk (Int.toNat b)) (Go.Sx.rk (Int.toNat a)))
      ((2 : Int) ^ Min.min (Int.toNat (1 : Int)) (Go.IntKind.bits Go.IntKind.i64))) (c20 : Go.Sx.bitsV Go.BinOp.and Go.IntKind.i64 (Go.Sx.rk (Int.toNat b)) (Go.Sx.rk (Int.toNat a)) +
    Int.fdiv (Go.Sx.bitsV Go.BinOp.xor Go.IntKind.i64 (Go.Sx.rk (Int.toNat b)) (Go.Sx.rk (Int.toNat a)))
      ((2 : Int) ^ Min.min (Int.toNat (1 : Int)) (Go.IntKind.bits Go.IntKind.i64)) ≤
  (9223372036854775807 : Int)) (c21 : (-9218868437227405312 : Int) ≤
  Go.Sx.bitsV Go.BinOp.and Go.IntKind.i64 (Go.Sx.rk (Int.toNat b)) (Go.Sx.rk (Int.toNat a)) +
    Int.fdiv (Go.Sx.bitsV Go.BinOp.xor Go.IntKind.i64 (Go.Sx.rk (Int.toNat b)) (Go.Sx.rk (Int.toNat a)))
      ((2 : Int) ^ Min.min (Int.toNat (1 : Int)) (Go.IntKind.bits Go.IntKind.i64))) (c22 : Go.Sx.bitsV Go.BinOp.and Go.IntKind.i64 (Go.Sx.rk (Int.toNat b)) (Go.Sx.rk (Int.toNat a)) +
    Int.fdiv (Go.Sx.bitsV Go.BinOp.xor Go.IntKind.i64 (Go.Sx.rk (Int.toNat b)) (Go.Sx.rk (Int.toNat a)))
      ((2 : Int) ^ Min.min (Int.toNat (1 : Int)) (Go.IntKind.bits Go.IntKind.i64)) ≤
  (9218868437227405312 : Int)) (c23 : (!Nat.beq
      (Go.Sx.cn
        (Go.Sx.wd
          (Go.Sx.bitsV Go.BinOp.and Go.IntKind.i64 (Go.Sx.rk (Int.toNat a)) (Go.Sx.rk (Int.toNat b)) +
            Int.fdiv (Go.Sx.bitsV Go.BinOp.xor Go.IntKind.i64 (Go.Sx.rk (Int.toNat a)) (Go.Sx.rk (Int.toNat b)))
              ((2 : Int) ^ Min.min (Int.toNat (1 : Int)) (Go.IntKind.bits Go.IntKind.i64)))))
      (Go.Sx.cn
        (Go.Sx.wd
          (Go.Sx.bitsV Go.BinOp.and Go.IntKind.i64 (Go.Sx.rk (Int.toNat b)) (Go.Sx.rk (Int.toNat a)) +
            Int.fdiv (Go.Sx.bitsV Go.BinOp.xor Go.IntKind.i64 (Go.Sx.rk (Int.toNat b)) (Go.Sx.rk (Int.toNat a)))
              ((2 : Int) ^ Min.min (Int.toNat (1 : Int)) (Go.IntKind.bits Go.IntKind.i64)))))) =
  Bool.false) (c24 : Go.Sx.feq (Go.Sx.fsub (Go.Sx.cn (Int.toNat a)) (Go.Sx.cn (Int.toNat a))) (Go.Sx.cn (0 : Nat)) = Bool.true) (c25 : (!Decidable.decide ((0 : Int) = (0 : Int)) ==
      Go.Sx.feq (Go.Sx.fsub (Go.Sx.cn (Int.toNat b)) (Go.Sx.cn (Int.toNat b))) (Go.Sx.cn (0 : Nat))) =
  Bool.false) (c26 : Go.Sx.isnan (Int.toNat a) = Bool.false) (c27 : Go.Sx.isnan (Int.toNat b) = Bool.false) (c28 : Go.Sx.isnan
    (Go.Sx.wd
      (Go.Sx.bitsV Go.BinOp.and Go.IntKind.i64 (Go.Sx.rk (Int.toNat a)) (Go.Sx.rk (Int.toNat b)) +
        Int.fdiv (Go.Sx.bitsV Go.BinOp.xor Go.IntKind.i64 (Go.Sx.rk (Int.toNat a)) (Go.Sx.rk (Int.toNat b)))
          ((2 : Int) ^ Min.min (Int.toNat (1 : Int)) (Go.IntKind.bits Go.IntKind.i64)))) =
  Bool.false) (c29 : Go.Sx.flt
    (Go.Sx.cn
      (Go.Sx.wd
        (Go.Sx.bitsV Go.BinOp.and Go.IntKind.i64 (Go.Sx.rk (Int.toNat a)) (Go.Sx.rk (Int.toNat b)) +
          Int.fdiv (Go.Sx.bitsV Go.BinOp.xor Go.IntKind.i64 (Go.Sx.rk (Int.toNat a)) (Go.Sx.rk (Int.toNat b)))
            ((2 : Int) ^ Min.min (Int.toNat (1 : Int)) (Go.IntKind.bits Go.IntKind.i64)))))
    (Go.Sx.cn (Int.toNat a)) =
  Bool.false) (c30 : Go.Sx.fgt
    (Go.Sx.cn
      (Go.Sx.wd
        (Go.Sx.bitsV Go.BinOp.and Go.IntKind.i64 (Go.Sx.rk (Int.toNat a)) (Go.Sx.rk (Int.toNat b)) +
          Int.fdiv (Go.Sx.bitsV Go.BinOp.xor Go.IntKind.i64 (Go.Sx.rk (Int.toNat a)) (Go.Sx.rk (Int.toNat b)))
            ((2 : Int) ^ Min.min (Int.toNat (1 : Int)) (Go.IntKind.bits Go.IntKind.i64)))))
    (Go.Sx.cn (Int.toNat b)) =
  Bool.false) (c31 : (-9223372036854775808 : Int) ≤
  Go.Sx.rk (Int.toNat b) -
    Go.Sx.rk
      (Go.Sx.wd
        (Go.Sx.bitsV Go.BinOp.and Go.IntKind.i64 (Go.Sx.rk (Int.toNat a)) (Go.Sx.rk (Int.toNat b)) +
          Int.fdiv (Go.Sx.bitsV Go.BinOp.xor Go.IntKind.i64 (Go.Sx.rk (Int.toNat a)) (Go.Sx.rk (Int.toNat b)))
            ((2 : Int) ^ Min.min (Int.toNat (1 : Int)) (Go.IntKind.bits Go.IntKind.i64))))) (c32 : Go.Sx.rk (Int.toNat b) -
    Go.Sx.rk
      (Go.Sx.wd
        (Go.Sx.bitsV Go.BinOp.and Go.IntKind.i64 (Go.Sx.rk (Int.toNat a)) (Go.Sx.rk (Int.toNat b)) +
          Int.fdiv (Go.Sx.bitsV Go.BinOp.xor Go.IntKind.i64 (Go.Sx.rk (Int.toNat a)) (Go.Sx.rk (Int.toNat b)))
            ((2 : Int) ^ Min.min (Int.toNat (1 : Int)) (Go.IntKind.bits Go.IntKind.i64)))) ≤
  (9223372036854775807 : Int)) (c33 : (-9223372036854775808 : Int) ≤
  Go.Sx.rk
      (Go.Sx.wd
        (Go.Sx.bitsV Go.BinOp.and Go.IntKind.i64 (Go.Sx.rk (Int.toNat a)) (Go.Sx.rk (Int.toNat b)) +
          Int.fdiv (Go.Sx.bitsV Go.BinOp.xor Go.IntKind.i64 (Go.Sx.rk (Int.toNat a)) (Go.Sx.rk (Int.toNat b)))
            ((2 : Int) ^ Min.min (Int.toNat (1 : Int)) (Go.IntKind.bits Go.IntKind.i64)))) -
    Go.Sx.rk (Int.toNat a)) (c34 : Go.Sx.rk
      (Go.Sx.wd
        (Go.Sx.bitsV Go.BinOp.and Go.IntKind.i64 (Go.Sx.rk (Int.toNat a)) (Go.Sx.rk (Int.toNat b)) +
          Int.fdiv (Go.Sx.bitsV Go.BinOp.xor Go.IntKind.i64 (Go.Sx.rk (Int.toNat a)) (Go.Sx.rk (Int.toNat b)))
            ((2 : Int) ^ Min.min (Int.toNat (1 : Int)) (Go.IntKind.bits Go.IntKind.i64)))) -
    Go.Sx.rk (Int.toNat a) ≤
  (9223372036854775807 : Int)) (c35 : Decidable.decide
    (Go.IntKind.wrap Go.IntKind.u64
        (Go.IntKind.wrap Go.IntKind.u64
            (Go.Sx.rk (Int.toNat b) -
              Go.Sx.rk
                (Go.Sx.wd
                  (Go.Sx.bitsV Go.BinOp.and Go.IntKind.i64 (Go.Sx.rk (Int.toNat a)) (Go.Sx.rk (Int.toNat b)) +
                    Int.fdiv (Go.Sx.bitsV Go.BinOp.xor Go.IntKind.i64 (Go.Sx.rk (Int.toNat a)) (Go.Sx.rk (Int.toNat b)))
                      ((2 : Int) ^ Min.min (Int.toNat (1 : Int)) (Go.IntKind.bits Go.IntKind.i64))))) -
          Go.IntKind.wrap Go.IntKind.u64
            (Go.Sx.rk
                (Go.Sx.wd
                  (Go.Sx.bitsV Go.BinOp.and Go.IntKind.i64 (Go.Sx.rk (Int.toNat a)) (Go.Sx.rk (Int.toNat b)) +
                    Int.fdiv (Go.Sx.bitsV Go.BinOp.xor Go.IntKind.i64 (Go.Sx.rk (Int.toNat a)) (Go.Sx.rk (Int.toNat b)))
                      ((2 : Int) ^ Min.min (Int.toNat (1 : Int)) (Go.IntKind.bits Go.IntKind.i64)))) -
              Go.Sx.rk (Int.toNat a))) =
      (0 : Int)) =
  Bool.false) : Go.Sx.PureP (Go.Sx.AV.sbool
  (Decidable.decide
    (Go.IntKind.wrap Go.IntKind.u64
        (Go.IntKind.wrap Go.IntKind.u64
            (Go.Sx.rk (Int.toNat b) -
              Go.Sx.rk
                (Go.Sx.wd
                  (Go.Sx.bitsV Go.BinOp.and Go.IntKind.i64 (Go.Sx.rk (Int.toNat a)) (Go.Sx.rk (Int.toNat b)) +
                    Int.fdiv (Go.Sx.bitsV Go.BinOp.xor Go.IntKind.i64 (Go.Sx.rk (Int.toNat a)) (Go.Sx.rk (Int.toNat b)))
                      ((2 : Int) ^ Min.min (Int.toNat (1 : Int)) (Go.IntKind.bits Go.IntKind.i64))))) -
          Go.IntKind.wrap Go.IntKind.u64
            (Go.Sx.rk
                (Go.Sx.wd
                  (Go.Sx.bitsV Go.BinOp.and Go.IntKind.i64 (Go.Sx.rk (Int.toNat a)) (Go.Sx.rk (Int.toNat b)) +
                    Int.fdiv (Go.Sx.bitsV Go.BinOp.xor Go.IntKind.i64 (Go.Sx.rk (Int.toNat a)) (Go.Sx.rk (Int.toNat b)))
                      ((2 : Int) ^ Min.min (Int.toNat (1 : Int)) (Go.IntKind.bits Go.IntKind.i64)))) -
              Go.Sx.rk (Int.toNat a))) =
      (1 : Int)))) (call2 5 [.int true .u64 a, .int true .u64 b] (Go.Sx.G.on [false, false, false, false, false, false, true, false, false, false, false])) := by
  have e : Go.Sx.pureP (Go.Sx.AV.sbool
  (Decidable.decide
    (Go.IntKind.wrap Go.IntKind.u64
        (Go.IntKind.wrap Go.IntKind.u64
            (Go.Sx.rk (Int.toNat b) -
              Go.Sx.rk
                (Go.Sx.wd
                  (Go.Sx.bitsV Go.BinOp.and Go.IntKind.i64 (Go.Sx.rk (Int.toNat a)) (Go.Sx.rk (Int.toNat b)) +
                    Int.fdiv (Go.Sx.bitsV Go.BinOp.xor Go.IntKind.i64 (Go.Sx.rk (Int.toNat a)) (Go.Sx.rk (Int.toNat b)))
                      ((2 : Int) ^ Min.min (Int.toNat (1 : Int)) (Go.IntKind.bits Go.IntKind.i64))))) -
          Go.IntKind.wrap Go.IntKind.u64
            (Go.Sx.rk
                (Go.Sx.wd
                  (Go.Sx.bitsV Go.BinOp.and Go.IntKind.i64 (Go.Sx.rk (Int.toNat a)) (Go.Sx.rk (Int.toNat b)) +
                    Int.fdiv (Go.Sx.bitsV Go.BinOp.xor Go.IntKind.i64 (Go.Sx.rk (Int.toNat a)) (Go.Sx.rk (Int.toNat b)))
                      ((2 : Int) ^ Min.min (Int.toNat (1 : Int)) (Go.IntKind.bits Go.IntKind.i64)))) -
              Go.Sx.rk (Int.toNat a))) =
      (1 : Int)))) (call2 5 [.int true .u64 a, .int true .u64 b] (Go.Sx.G.on [false, false, false, false, false, false, true, false, false, false, false])) = ((Go.Sx.AV.sbool
  (Decidable.decide
    (Go.IntKind.wrap Go.IntKind.u64
        (Go.IntKind.wrap Go.IntKind.u64
            (Go.Sx.rk (Int.toNat b) -
              Go.Sx.rk
                (Go.Sx.wd
                  (Go.Sx.bitsV Go.BinOp.and Go.IntKind.i64 (Go.Sx.rk (Int.toNat a)) (Go.Sx.rk (Int.toNat b)) +
                    Int.fdiv (Go.Sx.bitsV Go.BinOp.xor Go.IntKind.i64 (Go.Sx.rk (Int.toNat a)) (Go.Sx.rk (Int.toNat b)))
                      ((2 : Int) ^ Min.min (Int.toNat (1 : Int)) (Go.IntKind.bits Go.IntKind.i64))))) -
          Go.IntKind.wrap Go.IntKind.u64
            (Go.Sx.rk
                (Go.Sx.wd
                  (Go.Sx.bitsV Go.BinOp.and Go.IntKind.i64 (Go.Sx.rk (Int.toNat a)) (Go.Sx.rk (Int.toNat b)) +
                    Int.fdiv (Go.Sx.bitsV Go.BinOp.xor Go.IntKind.i64 (Go.Sx.rk (Int.toNat a)) (Go.Sx.rk (Int.toNat b)))
                      ((2 : Int) ^ Min.min (Int.toNat (1 : Int)) (Go.IntKind.bits Go.IntKind.i64)))) -
              Go.Sx.rk (Int.toNat a))) =
      (1 : Int)))) = (Go.Sx.AV.sbool
  (Decidable.decide
    (Go.IntKind.wrap Go.IntKind.u64
        (Go.IntKind.wrap Go.IntKind.u64
            (Go.Sx.rk (Int.toNat b) -
              Go.Sx.rk
                (Go.Sx.wd
                  (Go.Sx.bitsV Go.BinOp.and Go.IntKind.i64 (Go.Sx.rk (Int.toNat a)) (Go.Sx.rk (Int.toNat b)) +
                    Int.fdiv (Go.Sx.bitsV Go.BinOp.xor Go.IntKind.i64 (Go.Sx.rk (Int.toNat a)) (Go.Sx.rk (Int.toNat b)))
                      ((2 : Int) ^ Min.min (Int.toNat (1 : Int)) (Go.IntKind.bits Go.IntKind.i64))))) -
          Go.IntKind.wrap Go.IntKind.u64
            (Go.Sx.rk
                (Go.Sx.wd
                  (Go.Sx.bitsV Go.BinOp.and Go.IntKind.i64 (Go.Sx.rk (Int.toNat a)) (Go.Sx.rk (Int.toNat b)) +
                    Int.fdiv (Go.Sx.bitsV Go.BinOp.xor Go.IntKind.i64 (Go.Sx.rk (Int.toNat a)) (Go.Sx.rk (Int.toNat b)))
                      ((2 : Int) ^ Min.min (Int.toNat (1 : Int)) (Go.IntKind.bits Go.IntKind.i64)))) -
              Go.Sx.rk (Int.toNat a))) =
      (1 : Int)))) ∧ ((((((((((((((((((((((((((((True ∧ (((0 : Int) ≤ a) ∧ (a < (18446744073709551616 : Int)))) ∧ (((0 : Int) ≤ b) ∧ (b < (18446744073709551616 : Int)))) ∧ (Go.Sx.flt (Go.Sx.cn (Int.toNat b)) (Go.Sx.cn (Int.toNat a)) = Bool.false)) ∧ ((!Go.Sx.finD (Int.toNat a)) = Bool.false)) ∧ ((!Go.Sx.finD (Int.toNat b)) = Bool.false)) ∧ (Go.Sx.isnan (Int.toNat a) = Bool.false)) ∧ (Go.Sx.isnan (Int.toNat b) = Bool.false)) ∧ ((0 : Int) ≤ (1 : Int))) ∧ (((-9223372036854775808 : Int) ≤
  Go.Sx.bitsV Go.BinOp.and Go.IntKind.i64 (Go.Sx.rk (Int.toNat a)) (Go.Sx.rk (Int.toNat b)) +
    Int.fdiv (Go.Sx.bitsV Go.BinOp.xor Go.IntKind.i64 (Go.Sx.rk (Int.toNat a)) (Go.Sx.rk (Int.toNat b)))
      ((2 : Int) ^ Min.min (Int.toNat (1 : Int)) (Go.IntKind.bits Go.IntKind.i64))) ∧ (Go.Sx.bitsV Go.BinOp.and Go.IntKind.i64 (Go.Sx.rk (Int.toNat a)) (Go.Sx.rk (Int.toNat b)) +
    Int.fdiv (Go.Sx.bitsV Go.BinOp.xor Go.IntKind.i64 (Go.Sx.rk (Int.toNat a)) (Go.Sx.rk (Int.toNat b)))
      ((2 : Int) ^ Min.min (Int.toNat (1 : Int)) (Go.IntKind.bits Go.IntKind.i64)) ≤
  (9223372036854775807 : Int)))) ∧ (((-9218868437227405312 : Int) ≤
  Go.Sx.bitsV Go.BinOp.and Go.IntKind.i64 (Go.Sx.rk (Int.toNat a)) (Go.Sx.rk (Int.toNat b)) +
    Int.fdiv (Go.Sx.bitsV Go.BinOp.xor Go.IntKind.i64 (Go.Sx.rk (Int.toNat a)) (Go.Sx.rk (Int.toNat b)))
      ((2 : Int) ^ Min.min (Int.toNat (1 : Int)) (Go.IntKind.bits Go.IntKind.i64))) ∧ (Go.Sx.bitsV Go.BinOp.and Go.IntKind.i64 (Go.Sx.rk (Int.toNat a)) (Go.Sx.rk (Int.toNat b)) +
    Int.fdiv (Go.Sx.bitsV Go.BinOp.xor Go.IntKind.i64 (Go.Sx.rk (Int.toNat a)) (Go.Sx.rk (Int.toNat b)))
      ((2 : Int) ^ Min.min (Int.toNat (1 : Int)) (Go.IntKind.bits Go.IntKind.i64)) ≤
  (9218868437227405312 : Int)))) ∧ ((!Go.Sx.finD (Int.toNat b)) = Bool.false)) ∧ ((!Go.Sx.finD (Int.toNat a)) = Bool.false)) ∧ (Go.Sx.isnan (Int.toNat b) = Bool.false)) ∧ (Go.Sx.isnan (Int.toNat a) = Bool.false)) ∧ ((0 : Int) ≤ (1 : Int))) ∧ (((-9223372036854775808 : Int) ≤
  Go.Sx.bitsV Go.BinOp.and Go.IntKind.i64 (Go.Sx.rk (Int.toNat b)) (Go.Sx.rk (Int.toNat a)) +
    Int.fdiv (Go.Sx.bitsV Go.BinOp.xor Go.IntKind.i64 (Go.Sx.rk (Int.toNat b)) (Go.Sx.rk (Int.toNat a)))
      ((2 : Int) ^ Min.min (Int.toNat (1 : Int)) (Go.IntKind.bits Go.IntKind.i64))) ∧ (Go.Sx.bitsV Go.BinOp.and Go.IntKind.i64 (Go.Sx.rk (Int.toNat b)) (Go.Sx.rk (Int.toNat a)) +
    Int.fdiv (Go.Sx.bitsV Go.BinOp.xor Go.IntKind.i64 (Go.Sx.rk (Int.toNat b)) (Go.Sx.rk (Int.toNat a)))
      ((2 : Int) ^ Min.min (Int.toNat (1 : Int)) (Go.IntKind.bits Go.IntKind.i64)) ≤
  (9223372036854775807 : Int)))) ∧ (((-9218868437227405312 : Int) ≤
  Go.Sx.bitsV Go.BinOp.and Go.IntKind.i64 (Go.Sx.rk (Int.toNat b)) (Go.Sx.rk (Int.toNat a)) +
    Int.fdiv (Go.Sx.bitsV Go.BinOp.xor Go.IntKind.i64 (Go.Sx.rk (Int.toNat b)) (Go.Sx.rk (Int.toNat a)))
      ((2 : Int) ^ Min.min (Int.toNat (1 : Int)) (Go.IntKind.bits Go.IntKind.i64))) ∧ (Go.Sx.bitsV Go.BinOp.and Go.IntKind.i64 (Go.Sx.rk (Int.toNat b)) (Go.Sx.rk (Int.toNat a)) +
    Int.fdiv (Go.Sx.bitsV Go.BinOp.xor Go.IntKind.i64 (Go.Sx.rk (Int.toNat b)) (Go.Sx.rk (Int.toNat a)))
      ((2 : Int) ^ Min.min (Int.toNat (1 : Int)) (Go.IntKind.bits Go.IntKind.i64)) ≤
  (9218868437227405312 : Int)))) ∧ ((!Nat.beq
      (Go.Sx.cn
        (Go.Sx.wd
          (Go.Sx.bitsV Go.BinOp.and Go.IntKind.i64 (Go.Sx.rk (Int.toNat a)) (Go.Sx.rk (Int.toNat b)) +
            Int.fdiv (Go.Sx.bitsV Go.BinOp.xor Go.IntKind.i64 (Go.Sx.rk (Int.toNat a)) (Go.Sx.rk (Int.toNat b)))
              ((2 : Int) ^ Min.min (Int.toNat (1 : Int)) (Go.IntKind.bits Go.IntKind.i64)))))
      (Go.Sx.cn
        (Go.Sx.wd
          (Go.Sx.bitsV Go.BinOp.and Go.IntKind.i64 (Go.Sx.rk (Int.toNat b)) (Go.Sx.rk (Int.toNat a)) +
            Int.fdiv (Go.Sx.bitsV Go.BinOp.xor Go.IntKind.i64 (Go.Sx.rk (Int.toNat b)) (Go.Sx.rk (Int.toNat a)))
              ((2 : Int) ^ Min.min (Int.toNat (1 : Int)) (Go.IntKind.bits Go.IntKind.i64)))))) =
  Bool.false)) ∧ (Go.Sx.feq (Go.Sx.fsub (Go.Sx.cn (Int.toNat a)) (Go.Sx.cn (Int.toNat a))) (Go.Sx.cn (0 : Nat)) = Bool.true)) ∧ ((!Decidable.decide ((0 : Int) = (0 : Int)) ==
      Go.Sx.feq (Go.Sx.fsub (Go.Sx.cn (Int.toNat b)) (Go.Sx.cn (Int.toNat b))) (Go.Sx.cn (0 : Nat))) =
  Bool.false)) ∧ (Go.Sx.isnan (Int.toNat a) = Bool.false)) ∧ (Go.Sx.isnan (Int.toNat b) = Bool.false)) ∧ (Go.Sx.isnan
    (Go.Sx.wd
      (Go.Sx.bitsV Go.BinOp.and Go.IntKind.i64 (Go.Sx.rk (Int.toNat a)) (Go.Sx.rk (Int.toNat b)) +
        Int.fdiv (Go.Sx.bitsV Go.BinOp.xor Go.IntKind.i64 (Go.Sx.rk (Int.toNat a)) (Go.Sx.rk (Int.toNat b)))
          ((2 : Int) ^ Min.min (Int.toNat (1 : Int)) (Go.IntKind.bits Go.IntKind.i64)))) =
  Bool.false)) ∧ (Go.Sx.flt
    (Go.Sx.cn
      (Go.Sx.wd
        (Go.Sx.bitsV Go.BinOp.and Go.IntKind.i64 (Go.Sx.rk (Int.toNat a)) (Go.Sx.rk (Int.toNat b)) +
          Int.fdiv (Go.Sx.bitsV Go.BinOp.xor Go.IntKind.i64 (Go.Sx.rk (Int.toNat a)) (Go.Sx.rk (Int.toNat b)))
            ((2 : Int) ^ Min.min (Int.toNat (1 : Int)) (Go.IntKind.bits Go.IntKind.i64)))))
    (Go.Sx.cn (Int.toNat a)) =
  Bool.false)) ∧ (Go.Sx.fgt
    (Go.Sx.cn
      (Go.Sx.wd
        (Go.Sx.bitsV Go.BinOp.and Go.IntKind.i64 (Go.Sx.rk (Int.toNat a)) (Go.Sx.rk (Int.toNat b)) +
          Int.fdiv (Go.Sx.bitsV Go.BinOp.xor Go.IntKind.i64 (Go.Sx.rk (Int.toNat a)) (Go.Sx.rk (Int.toNat b)))
            ((2 : Int) ^ Min.min (Int.toNat (1 : Int)) (Go.IntKind.bits Go.IntKind.i64)))))
    (Go.Sx.cn (Int.toNat b)) =
  Bool.false)) ∧ (((-9223372036854775808 : Int) ≤
  Go.Sx.rk (Int.toNat b) -
    Go.Sx.rk
      (Go.Sx.wd
        (Go.Sx.bitsV Go.BinOp.and Go.IntKind.i64 (Go.Sx.rk (Int.toNat a)) (Go.Sx.rk (Int.toNat b)) +
          Int.fdiv (Go.Sx.bitsV Go.BinOp.xor Go.IntKind.i64 (Go.Sx.rk (Int.toNat a)) (Go.Sx.rk (Int.toNat b)))
            ((2 : Int) ^ Min.min (Int.toNat (1 : Int)) (Go.IntKind.bits Go.IntKind.i64))))) ∧ (Go.Sx.rk (Int.toNat b) -
    Go.Sx.rk
      (Go.Sx.wd
        (Go.Sx.bitsV Go.BinOp.and Go.IntKind.i64 (Go.Sx.rk (Int.toNat a)) (Go.Sx.rk (Int.toNat b)) +
          Int.fdiv (Go.Sx.bitsV Go.BinOp.xor Go.IntKind.i64 (Go.Sx.rk (Int.toNat a)) (Go.Sx.rk (Int.toNat b)))
            ((2 : Int) ^ Min.min (Int.toNat (1 : Int)) (Go.IntKind.bits Go.IntKind.i64)))) ≤
  (9223372036854775807 : Int)))) ∧ (((-9223372036854775808 : Int) ≤
  Go.Sx.rk
      (Go.Sx.wd
        (Go.Sx.bitsV Go.BinOp.and Go.IntKind.i64 (Go.Sx.rk (Int.toNat a)) (Go.Sx.rk (Int.toNat b)) +
          Int.fdiv (Go.Sx.bitsV Go.BinOp.xor Go.IntKind.i64 (Go.Sx.rk (Int.toNat a)) (Go.Sx.rk (Int.toNat b)))
            ((2 : Int) ^ Min.min (Int.toNat (1 : Int)) (Go.IntKind.bits Go.IntKind.i64)))) -
    Go.Sx.rk (Int.toNat a)) ∧ (Go.Sx.rk
      (Go.Sx.wd
        (Go.Sx.bitsV Go.BinOp.and Go.IntKind.i64 (Go.Sx.rk (Int.toNat a)) (Go.Sx.rk (Int.toNat b)) +
          Int.fdiv (Go.Sx.bitsV Go.BinOp.xor Go.IntKind.i64 (Go.Sx.rk (Int.toNat a)) (Go.Sx.rk (Int.toNat b)))
            ((2 : Int) ^ Min.min (Int.toNat (1 : Int)) (Go.IntKind.bits Go.IntKind.i64)))) -
    Go.Sx.rk (Int.toNat a) ≤
  (9223372036854775807 : Int)))) ∧ (Decidable.decide
    (Go.IntKind.wrap Go.IntKind.u64
        (Go.IntKind.wrap Go.IntKind.u64
            (Go.Sx.rk (Int.toNat b) -
              Go.Sx.rk
                (Go.Sx.wd
                  (Go.Sx.bitsV Go.BinOp.and Go.IntKind.i64 (Go.Sx.rk (Int.toNat a)) (Go.Sx.rk (Int.toNat b)) +
                    Int.fdiv (Go.Sx.bitsV Go.BinOp.xor Go.IntKind.i64 (Go.Sx.rk (Int.toNat a)) (Go.Sx.rk (Int.toNat b)))
                      ((2 : Int) ^ Min.min (Int.toNat (1 : Int)) (Go.IntKind.bits Go.IntKind.i64))))) -
          Go.IntKind.wrap Go.IntKind.u64
            (Go.Sx.rk
                (Go.Sx.wd
                  (Go.Sx.bitsV Go.BinOp.and Go.IntKind.i64 (Go.Sx.rk (Int.toNat a)) (Go.Sx.rk (Int.toNat b)) +
                    Int.fdiv (Go.Sx.bitsV Go.BinOp.xor Go.IntKind.i64 (Go.Sx.rk (Int.toNat a)) (Go.Sx.rk (Int.toNat b)))
                      ((2 : Int) ^ Min.min (Int.toNat (1 : Int)) (Go.IntKind.bits Go.IntKind.i64)))) -
              Go.Sx.rk (Int.toNat a))) =
      (0 : Int)) =
  Bool.false))) := by kernel_rfl
  exact ⟨by rw [e]; exact ⟨rfl, ⟨⟨⟨⟨⟨⟨⟨⟨⟨⟨⟨⟨⟨⟨⟨⟨⟨⟨⟨⟨⟨⟨⟨⟨⟨⟨⟨⟨trivial, ⟨c0, c1⟩⟩, ⟨c2, c3⟩⟩, c4⟩, c5⟩, c6⟩, c7⟩, c8⟩, c9⟩, ⟨c10, c11⟩⟩, ⟨c12, c13⟩⟩, c14⟩, c15⟩, c16⟩, c17⟩, c18⟩, ⟨c19, c20⟩⟩, ⟨c21, c22⟩⟩, c23⟩, c24⟩, c25⟩, c26⟩, c27⟩, c28⟩, c29⟩, c30⟩, ⟨c31, c32⟩⟩, ⟨c33, c34⟩⟩, c35⟩⟩⟩
theorem flt_nn {x y : Nat} (hx : x < 18446744073709551616) (hy : y < 18446744073709551616) (nx : Sx.isnan x = false) (ny : Sx.isnan y = false) : Sx.flt (Sx.cn x) (Sx.cn y) = decide (Sx.rk x < Sx.rk y) := by
  rw [Sx.cn_of_not nx, Sx.cn_of_not ny, Sx.flt_rk hx hy, nx, ny]; rfl
theorem fgt_nn {x y : Nat} (hx : x < 18446744073709551616) (hy : y < 18446744073709551616) (nx : Sx.isnan x = false) (ny : Sx.isnan y = false) : Sx.fgt (Sx.cn x) (Sx.cn y) = decide (Sx.rk y < Sx.rk x) := by
  rw [Sx.cn_of_not nx, Sx.cn_of_not ny, Sx.fgt_rk hx hy, nx, ny]; rfl
theorem not_f {b : Bool} (h : b = false) : (!b) = true := by rw [h]; rfl
theorem not_t {b : Bool} (h : b = true) : (!b) = false := by rw [h]; rfl
theorem wrap_nn {z : Int} (h : 0 ≤ z) (h2 : z < 18446744073709551616) : IntKind.u64.wrap z = z := by
  obtain ⟨m, rfl⟩ := Int.eq_ofNat_of_zero_le h
  exact Sx.wrap_u64 (by omega)
theorem half_t (a b : Int) (ha : 0 ≤ a) (ha2 : a < 18446744073709551616) (hb : 0 ≤ b) (hb2 : b < 18446744073709551616) (hs : Sx.flt (Sx.cn b.toNat) (Sx.cn a.toNat) = true) (w : World) :
    Calls Try.prog 5 #[.int .u64 a, .int .u64 b] w fun e w' => e = .returned (.bool true) ∧ Below w.heap.size w w' := by
  have hr : Sx.Reps 0 Sx.MM.none [.int true .u64 a, .int true .u64 b] (#[Value.int .u64 a, Value.int .u64 b] : Array Value).toList := by
    simp only [Sx.Reps, Sx.Rep]; exact ⟨_, _, rfl, rfl, _, _, rfl, rfl, rfl⟩
  have hna : a.toNat < 18446744073709551616 := by omega
  have hnb : b.toNat < 18446744073709551616 := by omega
  have fsa := Sx.fin_sub hna
  have fsb := Sx.fin_sub hnb
  cases fx : Sx.finD b.toNat with
  | false =>
    have fsx : Sx.feq (Sx.fsub (Sx.cn b.toNat) (Sx.cn b.toNat)) (Sx.cn 0) = false := by rw [fsb, fx]
    have tx := not_f fx
    cases fy : Sx.finD a.toNat with
    | false =>
      have fsy : Sx.feq (Sx.fsub (Sx.cn a.toNat) (Sx.cn a.toNat)) (Sx.cn 0) = false := by rw [fsa, fy]
      have ty := not_f fy
      exact Sx.pure_true call2_ok Try.func5 rfl (by kernel_rfl) (half_2 a b ha ha2 hb hb2 (by first | assumption | ((simp only [fsx, fsy]) <;> decide)) (by first | assumption | ((simp only [fsx, fsy]) <;> decide)) (by first | assumption | ((simp only [fsx, fsy]) <;> decide)) (by first | assumption | ((simp only [fsx, fsy]) <;> decide))) rfl (fun c hc => by have := hc 0 Sx.MM.none; simpa only [Sx.Rep] using this) w hr
    | true =>
      have fsy : Sx.feq (Sx.fsub (Sx.cn a.toNat) (Sx.cn a.toNat)) (Sx.cn 0) = true := by rw [fsa, fy]
      have ty := not_t fy
      exact Sx.pure_true call2_ok Try.func5 rfl (by kernel_rfl) (half_5 a b ha ha2 hb hb2 (by first | assumption | ((simp only [fsx, fsy]) <;> decide)) (by first | assumption | ((simp only [fsx, fsy]) <;> decide)) (by first | assumption | ((simp only [fsx, fsy]) <;> decide)) (by first | assumption | ((simp only [fsx, fsy]) <;> decide)) (by first | assumption | ((simp only [fsx, fsy]) <;> decide))) rfl (fun c hc => by have := hc 0 Sx.MM.none; simpa only [Sx.Rep] using this) w hr
  | true =>
    have fsx : Sx.feq (Sx.fsub (Sx.cn b.toNat) (Sx.cn b.toNat)) (Sx.cn 0) = true := by rw [fsb, fx]
    have tx := not_t fx
    cases fy : Sx.finD a.toNat with
    | false =>
      have fsy : Sx.feq (Sx.fsub (Sx.cn a.toNat) (Sx.cn a.toNat)) (Sx.cn 0) = false := by rw [fsa, fy]
      have ty := not_f fy
      exact Sx.pure_true call2_ok Try.func5 rfl (by kernel_rfl) (half_8 a b ha ha2 hb hb2 (by first | assumption | ((simp only [fsx, fsy]) <;> decide)) (by first | assumption | ((simp only [fsx, fsy]) <;> decide)) (by first | assumption | ((simp only [fsx, fsy]) <;> decide)) (by first | assumption | ((simp only [fsx, fsy]) <;> decide)) (by first | assumption | ((simp only [fsx, fsy]) <;> decide)) (by first | assumption | ((simp only [fsx, fsy]) <;> decide))) rfl (fun c hc => by have := hc 0 Sx.MM.none; simpa only [Sx.Rep] using this) w hr
    | true =>
      have fsy : Sx.feq (Sx.fsub (Sx.cn a.toNat) (Sx.cn a.toNat)) (Sx.cn 0) = true := by rw [fsa, fy]
      have ty := not_t fy
      have nx := Sx.finD_notnan fx
      have ny := Sx.finD_notnan fy
      have bx := Sx.rk_fin hnb fx
      have bY := Sx.rk_fin hna fy
      have le : Sx.rk b.toNat ≤ Sx.rk a.toNat := by
        have e := flt_nn hnb hna nx ny
        rw [hs] at e
        have := of_decide_eq_true e.symm
        omega
      obtain ⟨R, hR⟩ : ∃ R, R = (Sx.rk b.toNat + Sx.rk a.toNat) / 2 := ⟨_, rfl⟩
      have fd : ∀ z : Int, z.fdiv 2 = z / 2 := fun z => Int.fdiv_eq_ediv_of_nonneg _ (by omega)
      have md1 : Sx.bitsV .and .i64 (Sx.rk b.toNat) (Sx.rk a.toNat) + (Sx.bitsV .xor .i64 (Sx.rk b.toNat) (Sx.rk a.toNat)).fdiv (2 ^ min (Int.toNat 1) IntKind.i64.bits) = R := by
        rw [Sx.middle_is (by omega) (by omega) (by omega) (by omega), fd, hR]
      have md2 : Sx.bitsV .and .i64 (Sx.rk a.toNat) (Sx.rk b.toNat) + (Sx.bitsV .xor .i64 (Sx.rk a.toNat) (Sx.rk b.toNat)).fdiv (2 ^ min (Int.toNat 1) IntKind.i64.bits) = R := by
        rw [Sx.middle_is (by omega) (by omega) (by omega) (by omega), fd, hR, Int.add_comm]
      obtain ⟨rkR, ltR, nR⟩ := Sx.rk_wd (p := R) (by omega) (by omega)
      have t1 : Sx.flt (Sx.cn (Sx.wd R)) (Sx.cn b.toNat) = false := by rw [flt_nn ltR hnb nR nx, rkR]; exact decide_eq_false (by omega)
      have t2 : Sx.fgt (Sx.cn (Sx.wd R)) (Sx.cn a.toNat) = false := by rw [fgt_nn ltR hna nR ny, rkR]; exact decide_eq_false (by omega)
      have w1 : IntKind.u64.wrap (Sx.rk a.toNat - R) = Sx.rk a.toNat - R := wrap_nn (by omega) (by omega)
      have w2 : IntKind.u64.wrap (R - Sx.rk b.toNat) = R - Sx.rk b.toNat := wrap_nn (by omega) (by omega)
      have w3 : IntKind.u64.wrap ((Sx.rk a.toNat - R) - (R - Sx.rk b.toNat)) = (Sx.rk a.toNat - R) - (R - Sx.rk b.toNat) := wrap_nn (by omega) (by omega)
      have w4 : IntKind.u64.wrap (IntKind.u64.wrap (Sx.rk a.toNat - R) - IntKind.u64.wrap (R - Sx.rk b.toNat)) = (Sx.rk a.toNat - R) - (R - Sx.rk b.toNat) := by rw [w1, w2, w3]
      by_cases hd : IntKind.u64.wrap (IntKind.u64.wrap (Sx.rk a.toNat - R) - IntKind.u64.wrap (R - Sx.rk b.toNat)) = 0
      · have hd' : decide (IntKind.u64.wrap (IntKind.u64.wrap (Sx.rk a.toNat - R) - IntKind.u64.wrap (R - Sx.rk b.toNat)) = 0) = true := decide_eq_true hd
        exact Sx.pure_true call2_ok Try.func5 rfl (by kernel_rfl) (half_20 a b ha ha2 hb hb2 (by first | assumption | decide | ((simp only [md1, md2, rkR, Nat.beq_refl, Bool.not_true, fsx, fsy]) <;> first | assumption | omega | decide)) (by first | assumption | decide | ((simp only [md1, md2, rkR, Nat.beq_refl, Bool.not_true, fsx, fsy]) <;> first | assumption | omega | decide)) (by first | assumption | decide | ((simp only [md1, md2, rkR, Nat.beq_refl, Bool.not_true, fsx, fsy]) <;> first | assumption | omega | decide)) (by first | assumption | decide | ((simp only [md1, md2, rkR, Nat.beq_refl, Bool.not_true, fsx, fsy]) <;> first | assumption | omega | decide)) (by first | assumption | decide | ((simp only [md1, md2, rkR, Nat.beq_refl, Bool.not_true, fsx, fsy]) <;> first | assumption | omega | decide)) (by first | assumption | decide | ((simp only [md1, md2, rkR, Nat.beq_refl, Bool.not_true, fsx, fsy]) <;> first | assumption | omega | decide)) (by first | assumption | decide | ((simp only [md1, md2, rkR, Nat.beq_refl, Bool.not_true, fsx, fsy]) <;> first | assumption | omega | decide)) (by first | assumption | decide | ((simp only [md1, md2, rkR, Nat.beq_refl, Bool.not_true, fsx, fsy]) <;> first | assumption | omega | decide)) (by first | assumption | decide | ((simp only [md1, md2, rkR, Nat.beq_refl, Bool.not_true, fsx, fsy]) <;> first | assumption | omega | decide)) (by first | assumption | decide | ((simp only [md1, md2, rkR, Nat.beq_refl, Bool.not_true, fsx, fsy]) <;> first | assumption | omega | decide)) (by first | assumption | decide | ((simp only [md1, md2, rkR, Nat.beq_refl, Bool.not_true, fsx, fsy]) <;> first | assumption | omega | decide)) (by first | assumption | decide | ((simp only [md1, md2, rkR, Nat.beq_refl, Bool.not_true, fsx, fsy]) <;> first | assumption | omega | decide)) (by first | assumption | decide | ((simp only [md1, md2, rkR, Nat.beq_refl, Bool.not_true, fsx, fsy]) <;> first | assumption | omega | decide)) (by first | assumption | decide | ((simp only [md1, md2, rkR, Nat.beq_refl, Bool.not_true, fsx, fsy]) <;> first | assumption | omega | decide)) (by first | assumption | decide | ((simp only [md1, md2, rkR, Nat.beq_refl, Bool.not_true, fsx, fsy]) <;> first | assumption | omega | decide)) (by first | assumption | decide | ((simp only [md1, md2, rkR, Nat.beq_refl, Bool.not_true, fsx, fsy]) <;> first | assumption | omega | decide)) (by first | assumption | decide | ((simp only [md1, md2, rkR, Nat.beq_refl, Bool.not_true, fsx, fsy]) <;> first | assumption | omega | decide)) (by first | assumption | decide | ((simp only [md1, md2, rkR, Nat.beq_refl, Bool.not_true, fsx, fsy]) <;> first | assumption | omega | decide)) (by first | assumption | decide | ((simp only [md1, md2, rkR, Nat.beq_refl, Bool.not_true, fsx, fsy]) <;> first | assumption | omega | decide)) (by first | assumption | decide | ((simp only [md1, md2, rkR, Nat.beq_refl, Bool.not_true, fsx, fsy]) <;> first | assumption | omega | decide)) (by first | assumption | decide | ((simp only [md1, md2, rkR, Nat.beq_refl, Bool.not_true, fsx, fsy]) <;> first | assumption | omega | decide)) (by first | assumption | decide | ((simp only [md1, md2, rkR, Nat.beq_refl, Bool.not_true, fsx, fsy]) <;> first | assumption | omega | decide)) (by first | assumption | decide | ((simp only [md1, md2, rkR, Nat.beq_refl, Bool.not_true, fsx, fsy]) <;> first | assumption | omega | decide)) (by first | assumption | decide | ((simp only [md1, md2, rkR, Nat.beq_refl, Bool.not_true, fsx, fsy]) <;> first | assumption | omega | decide)) (by first | assumption | decide | ((simp only [md1, md2, rkR, Nat.beq_refl, Bool.not_true, fsx, fsy]) <;> first | assumption | omega | decide)) (by first | assumption | decide | ((simp only [md1, md2, rkR, Nat.beq_refl, Bool.not_true, fsx, fsy]) <;> first | assumption | omega | decide)) (by first | assumption | decide | ((simp only [md1, md2, rkR, Nat.beq_refl, Bool.not_true, fsx, fsy]) <;> first | assumption | omega | decide)) (by first | assumption | decide | ((simp only [md1, md2, rkR, Nat.beq_refl, Bool.not_true, fsx, fsy]) <;> first | assumption | omega | decide)) (by first | assumption | decide | ((simp only [md1, md2, rkR, Nat.beq_refl, Bool.not_true, fsx, fsy]) <;> first | assumption | omega | decide)) (by first | assumption | decide | ((simp only [md1, md2, rkR, Nat.beq_refl, Bool.not_true, fsx, fsy]) <;> first | assumption | omega | decide)) (by first | assumption | decide | ((simp only [md1, md2, rkR, Nat.beq_refl, Bool.not_true, fsx, fsy]) <;> first | assumption | omega | decide)) (by first | assumption | decide | ((simp only [md1, md2, rkR, Nat.beq_refl, Bool.not_true, fsx, fsy]) <;> first | assumption | omega | decide))) rfl (fun c hc => by have := hc 0 Sx.MM.none; simpa only [Sx.Rep] using this) w hr
      · have hd' : decide (IntKind.u64.wrap (IntKind.u64.wrap (Sx.rk a.toNat - R) - IntKind.u64.wrap (R - Sx.rk b.toNat)) = 0) = false := decide_eq_false hd
        refine Sx.pure_true call2_ok Try.func5 rfl (by kernel_rfl) (half_21 a b ha ha2 hb hb2 (by first | assumption | decide | ((simp only [md1, md2, rkR, Nat.beq_refl, Bool.not_true, fsx, fsy]) <;> first | assumption | omega | decide)) (by first | assumption | decide | ((simp only [md1, md2, rkR, Nat.beq_refl, Bool.not_true, fsx, fsy]) <;> first | assumption | omega | decide)) (by first | assumption | decide | ((simp only [md1, md2, rkR, Nat.beq_refl, Bool.not_true, fsx, fsy]) <;> first | assumption | omega | decide)) (by first | assumption | decide | ((simp only [md1, md2, rkR, Nat.beq_refl, Bool.not_true, fsx, fsy]) <;> first | assumption | omega | decide)) (by first | assumption | decide | ((simp only [md1, md2, rkR, Nat.beq_refl, Bool.not_true, fsx, fsy]) <;> first | assumption | omega | decide)) (by first | assumption | decide | ((simp only [md1, md2, rkR, Nat.beq_refl, Bool.not_true, fsx, fsy]) <;> first | assumption | omega | decide)) (by first | assumption | decide | ((simp only [md1, md2, rkR, Nat.beq_refl, Bool.not_true, fsx, fsy]) <;> first | assumption | omega | decide)) (by first | assumption | decide | ((simp only [md1, md2, rkR, Nat.beq_refl, Bool.not_true, fsx, fsy]) <;> first | assumption | omega | decide)) (by first | assumption | decide | ((simp only [md1, md2, rkR, Nat.beq_refl, Bool.not_true, fsx, fsy]) <;> first | assumption | omega | decide)) (by first | assumption | decide | ((simp only [md1, md2, rkR, Nat.beq_refl, Bool.not_true, fsx, fsy]) <;> first | assumption | omega | decide)) (by first | assumption | decide | ((simp only [md1, md2, rkR, Nat.beq_refl, Bool.not_true, fsx, fsy]) <;> first | assumption | omega | decide)) (by first | assumption | decide | ((simp only [md1, md2, rkR, Nat.beq_refl, Bool.not_true, fsx, fsy]) <;> first | assumption | omega | decide)) (by first | assumption | decide | ((simp only [md1, md2, rkR, Nat.beq_refl, Bool.not_true, fsx, fsy]) <;> first | assumption | omega | decide)) (by first | assumption | decide | ((simp only [md1, md2, rkR, Nat.beq_refl, Bool.not_true, fsx, fsy]) <;> first | assumption | omega | decide)) (by first | assumption | decide | ((simp only [md1, md2, rkR, Nat.beq_refl, Bool.not_true, fsx, fsy]) <;> first | assumption | omega | decide)) (by first | assumption | decide | ((simp only [md1, md2, rkR, Nat.beq_refl, Bool.not_true, fsx, fsy]) <;> first | assumption | omega | decide)) (by first | assumption | decide | ((simp only [md1, md2, rkR, Nat.beq_refl, Bool.not_true, fsx, fsy]) <;> first | assumption | omega | decide)) (by first | assumption | decide | ((simp only [md1, md2, rkR, Nat.beq_refl, Bool.not_true, fsx, fsy]) <;> first | assumption | omega | decide)) (by first | assumption | decide | ((simp only [md1, md2, rkR, Nat.beq_refl, Bool.not_true, fsx, fsy]) <;> first | assumption | omega | decide)) (by first | assumption | decide | ((simp only [md1, md2, rkR, Nat.beq_refl, Bool.not_true, fsx, fsy]) <;> first | assumption | omega | decide)) (by first | assumption | decide | ((simp only [md1, md2, rkR, Nat.beq_refl, Bool.not_true, fsx, fsy]) <;> first | assumption | omega | decide)) (by first | assumption | decide | ((simp only [md1, md2, rkR, Nat.beq_refl, Bool.not_true, fsx, fsy]) <;> first | assumption | omega | decide)) (by first | assumption | decide | ((simp only [md1, md2, rkR, Nat.beq_refl, Bool.not_true, fsx, fsy]) <;> first | assumption | omega | decide)) (by first | assumption | decide | ((simp only [md1, md2, rkR, Nat.beq_refl, Bool.not_true, fsx, fsy]) <;> first | assumption | omega | decide)) (by first | assumption | decide | ((simp only [md1, md2, rkR, Nat.beq_refl, Bool.not_true, fsx, fsy]) <;> first | assumption | omega | decide)) (by first | assumption | decide | ((simp only [md1, md2, rkR, Nat.beq_refl, Bool.not_true, fsx, fsy]) <;> first | assumption | omega | decide)) (by first | assumption | decide | ((simp only [md1, md2, rkR, Nat.beq_refl, Bool.not_true, fsx, fsy]) <;> first | assumption | omega | decide)) (by first | assumption | decide | ((simp only [md1, md2, rkR, Nat.beq_refl, Bool.not_true, fsx, fsy]) <;> first | assumption | omega | decide)) (by first | assumption | decide | ((simp only [md1, md2, rkR, Nat.beq_refl, Bool.not_true, fsx, fsy]) <;> first | assumption | omega | decide)) (by first | assumption | decide | ((simp only [md1, md2, rkR, Nat.beq_refl, Bool.not_true, fsx, fsy]) <;> first | assumption | omega | decide)) (by first | assumption | decide | ((simp only [md1, md2, rkR, Nat.beq_refl, Bool.not_true, fsx, fsy]) <;> first | assumption | omega | decide)) (by first | assumption | decide | ((simp only [md1, md2, rkR, Nat.beq_refl, Bool.not_true, fsx, fsy]) <;> first | assumption | omega | decide))) rfl (fun c hc => ?_) w hr
        have := hc 0 Sx.MM.none
        simp only [Sx.Rep, md1, md2, rkR] at this
        rw [this]
        congr 1
        rw [w4] at hd ⊢
        exact decide_eq_true (by omega)
theorem half_f (a b : Int) (ha : 0 ≤ a) (ha2 : a < 18446744073709551616) (hb : 0 ≤ b) (hb2 : b < 18446744073709551616) (hs : Sx.flt (Sx.cn b.toNat) (Sx.cn a.toNat) = false) (w : World) :
    Calls Try.prog 5 #[.int .u64 a, .int .u64 b] w fun e w' => e = .returned (.bool true) ∧ Below w.heap.size w w' := by
  have hr : Sx.Reps 0 Sx.MM.none [.int true .u64 a, .int true .u64 b] (#[Value.int .u64 a, Value.int .u64 b] : Array Value).toList := by
    simp only [Sx.Reps, Sx.Rep]; exact ⟨_, _, rfl, rfl, _, _, rfl, rfl, rfl⟩
  have hna : a.toNat < 18446744073709551616 := by omega
  have hnb : b.toNat < 18446744073709551616 := by omega
  have fsa := Sx.fin_sub hna
  have fsb := Sx.fin_sub hnb
  cases fx : Sx.finD a.toNat with
  | false =>
    have fsx : Sx.feq (Sx.fsub (Sx.cn a.toNat) (Sx.cn a.toNat)) (Sx.cn 0) = false := by rw [fsa, fx]
    have tx := not_f fx
    cases fy : Sx.finD b.toNat with
    | false =>
      have fsy : Sx.feq (Sx.fsub (Sx.cn b.toNat) (Sx.cn b.toNat)) (Sx.cn 0) = false := by rw [fsb, fy]
      have ty := not_f fy
      exact Sx.pure_true call2_ok Try.func5 rfl (by kernel_rfl) (half_25 a b ha ha2 hb hb2 (by first | assumption | ((simp only [fsx, fsy]) <;> decide)) (by first | assumption | ((simp only [fsx, fsy]) <;> decide)) (by first | assumption | ((simp only [fsx, fsy]) <;> decide)) (by first | assumption | ((simp only [fsx, fsy]) <;> decide))) rfl (fun c hc => by have := hc 0 Sx.MM.none; simpa only [Sx.Rep] using this) w hr
    | true =>
      have fsy : Sx.feq (Sx.fsub (Sx.cn b.toNat) (Sx.cn b.toNat)) (Sx.cn 0) = true := by rw [fsb, fy]
      have ty := not_t fy
      exact Sx.pure_true call2_ok Try.func5 rfl (by kernel_rfl) (half_28 a b ha ha2 hb hb2 (by first | assumption | ((simp only [fsx, fsy]) <;> decide)) (by first | assumption | ((simp only [fsx, fsy]) <;> decide)) (by first | assumption | ((simp only [fsx, fsy]) <;> decide)) (by first | assumption | ((simp only [fsx, fsy]) <;> decide)) (by first | assumption | ((simp only [fsx, fsy]) <;> decide))) rfl (fun c hc => by have := hc 0 Sx.MM.none; simpa only [Sx.Rep] using this) w hr
  | true =>
    have fsx : Sx.feq (Sx.fsub (Sx.cn a.toNat) (Sx.cn a.toNat)) (Sx.cn 0) = true := by rw [fsa, fx]
    have tx := not_t fx
    cases fy : Sx.finD b.toNat with
    | false =>
      have fsy : Sx.feq (Sx.fsub (Sx.cn b.toNat) (Sx.cn b.toNat)) (Sx.cn 0) = false := by rw [fsb, fy]
      have ty := not_f fy
      exact Sx.pure_true call2_ok Try.func5 rfl (by kernel_rfl) (half_31 a b ha ha2 hb hb2 (by first | assumption | ((simp only [fsx, fsy]) <;> decide)) (by first | assumption | ((simp only [fsx, fsy]) <;> decide)) (by first | assumption | ((simp only [fsx, fsy]) <;> decide)) (by first | assumption | ((simp only [fsx, fsy]) <;> decide)) (by first | assumption | ((simp only [fsx, fsy]) <;> decide)) (by first | assumption | ((simp only [fsx, fsy]) <;> decide))) rfl (fun c hc => by have := hc 0 Sx.MM.none; simpa only [Sx.Rep] using this) w hr
    | true =>
      have fsy : Sx.feq (Sx.fsub (Sx.cn b.toNat) (Sx.cn b.toNat)) (Sx.cn 0) = true := by rw [fsb, fy]
      have ty := not_t fy
      have nx := Sx.finD_notnan fx
      have ny := Sx.finD_notnan fy
      have bx := Sx.rk_fin hna fx
      have bY := Sx.rk_fin hnb fy
      have le : Sx.rk a.toNat ≤ Sx.rk b.toNat := by
        have e := flt_nn hnb hna ny nx
        rw [hs] at e
        have := of_decide_eq_false e.symm
        omega
      obtain ⟨R, hR⟩ : ∃ R, R = (Sx.rk a.toNat + Sx.rk b.toNat) / 2 := ⟨_, rfl⟩
      have fd : ∀ z : Int, z.fdiv 2 = z / 2 := fun z => Int.fdiv_eq_ediv_of_nonneg _ (by omega)
      have md1 : Sx.bitsV .and .i64 (Sx.rk a.toNat) (Sx.rk b.toNat) + (Sx.bitsV .xor .i64 (Sx.rk a.toNat) (Sx.rk b.toNat)).fdiv (2 ^ min (Int.toNat 1) IntKind.i64.bits) = R := by
        rw [Sx.middle_is (by omega) (by omega) (by omega) (by omega), fd, hR]
      have md2 : Sx.bitsV .and .i64 (Sx.rk b.toNat) (Sx.rk a.toNat) + (Sx.bitsV .xor .i64 (Sx.rk b.toNat) (Sx.rk a.toNat)).fdiv (2 ^ min (Int.toNat 1) IntKind.i64.bits) = R := by
        rw [Sx.middle_is (by omega) (by omega) (by omega) (by omega), fd, hR, Int.add_comm]
      obtain ⟨rkR, ltR, nR⟩ := Sx.rk_wd (p := R) (by omega) (by omega)
      have t1 : Sx.flt (Sx.cn (Sx.wd R)) (Sx.cn a.toNat) = false := by rw [flt_nn ltR hna nR nx, rkR]; exact decide_eq_false (by omega)
      have t2 : Sx.fgt (Sx.cn (Sx.wd R)) (Sx.cn b.toNat) = false := by rw [fgt_nn ltR hnb nR ny, rkR]; exact decide_eq_false (by omega)
      have w1 : IntKind.u64.wrap (Sx.rk b.toNat - R) = Sx.rk b.toNat - R := wrap_nn (by omega) (by omega)
      have w2 : IntKind.u64.wrap (R - Sx.rk a.toNat) = R - Sx.rk a.toNat := wrap_nn (by omega) (by omega)
      have w3 : IntKind.u64.wrap ((Sx.rk b.toNat - R) - (R - Sx.rk a.toNat)) = (Sx.rk b.toNat - R) - (R - Sx.rk a.toNat) := wrap_nn (by omega) (by omega)
      have w4 : IntKind.u64.wrap (IntKind.u64.wrap (Sx.rk b.toNat - R) - IntKind.u64.wrap (R - Sx.rk a.toNat)) = (Sx.rk b.toNat - R) - (R - Sx.rk a.toNat) := by rw [w1, w2, w3]
      by_cases hd : IntKind.u64.wrap (IntKind.u64.wrap (Sx.rk b.toNat - R) - IntKind.u64.wrap (R - Sx.rk a.toNat)) = 0
      · have hd' : decide (IntKind.u64.wrap (IntKind.u64.wrap (Sx.rk b.toNat - R) - IntKind.u64.wrap (R - Sx.rk a.toNat)) = 0) = true := decide_eq_true hd
        exact Sx.pure_true call2_ok Try.func5 rfl (by kernel_rfl) (half_43 a b ha ha2 hb hb2 (by first | assumption | decide | ((simp only [md1, md2, rkR, Nat.beq_refl, Bool.not_true, fsx, fsy]) <;> first | assumption | omega | decide)) (by first | assumption | decide | ((simp only [md1, md2, rkR, Nat.beq_refl, Bool.not_true, fsx, fsy]) <;> first | assumption | omega | decide)) (by first | assumption | decide | ((simp only [md1, md2, rkR, Nat.beq_refl, Bool.not_true, fsx, fsy]) <;> first | assumption | omega | decide)) (by first | assumption | decide | ((simp only [md1, md2, rkR, Nat.beq_refl, Bool.not_true, fsx, fsy]) <;> first | assumption | omega | decide)) (by first | assumption | decide | ((simp only [md1, md2, rkR, Nat.beq_refl, Bool.not_true, fsx, fsy]) <;> first | assumption | omega | decide)) (by first | assumption | decide | ((simp only [md1, md2, rkR, Nat.beq_refl, Bool.not_true, fsx, fsy]) <;> first | assumption | omega | decide)) (by first | assumption | decide | ((simp only [md1, md2, rkR, Nat.beq_refl, Bool.not_true, fsx, fsy]) <;> first | assumption | omega | decide)) (by first | assumption | decide | ((simp only [md1, md2, rkR, Nat.beq_refl, Bool.not_true, fsx, fsy]) <;> first | assumption | omega | decide)) (by first | assumption | decide | ((simp only [md1, md2, rkR, Nat.beq_refl, Bool.not_true, fsx, fsy]) <;> first | assumption | omega | decide)) (by first | assumption | decide | ((simp only [md1, md2, rkR, Nat.beq_refl, Bool.not_true, fsx, fsy]) <;> first | assumption | omega | decide)) (by first | assumption | decide | ((simp only [md1, md2, rkR, Nat.beq_refl, Bool.not_true, fsx, fsy]) <;> first | assumption | omega | decide)) (by first | assumption | decide | ((simp only [md1, md2, rkR, Nat.beq_refl, Bool.not_true, fsx, fsy]) <;> first | assumption | omega | decide)) (by first | assumption | decide | ((simp only [md1, md2, rkR, Nat.beq_refl, Bool.not_true, fsx, fsy]) <;> first | assumption | omega | decide)) (by first | assumption | decide | ((simp only [md1, md2, rkR, Nat.beq_refl, Bool.not_true, fsx, fsy]) <;> first | assumption | omega | decide)) (by first | assumption | decide | ((simp only [md1, md2, rkR, Nat.beq_refl, Bool.not_true, fsx, fsy]) <;> first | assumption | omega | decide)) (by first | assumption | decide | ((simp only [md1, md2, rkR, Nat.beq_refl, Bool.not_true, fsx, fsy]) <;> first | assumption | omega | decide)) (by first | assumption | decide | ((simp only [md1, md2, rkR, Nat.beq_refl, Bool.not_true, fsx, fsy]) <;> first | assumption | omega | decide)) (by first | assumption | decide | ((simp only [md1, md2, rkR, Nat.beq_refl, Bool.not_true, fsx, fsy]) <;> first | assumption | omega | decide)) (by first | assumption | decide | ((simp only [md1, md2, rkR, Nat.beq_refl, Bool.not_true, fsx, fsy]) <;> first | assumption | omega | decide)) (by first | assumption | decide | ((simp only [md1, md2, rkR, Nat.beq_refl, Bool.not_true, fsx, fsy]) <;> first | assumption | omega | decide)) (by first | assumption | decide | ((simp only [md1, md2, rkR, Nat.beq_refl, Bool.not_true, fsx, fsy]) <;> first | assumption | omega | decide)) (by first | assumption | decide | ((simp only [md1, md2, rkR, Nat.beq_refl, Bool.not_true, fsx, fsy]) <;> first | assumption | omega | decide)) (by first | assumption | decide | ((simp only [md1, md2, rkR, Nat.beq_refl, Bool.not_true, fsx, fsy]) <;> first | assumption | omega | decide)) (by first | assumption | decide | ((simp only [md1, md2, rkR, Nat.beq_refl, Bool.not_true, fsx, fsy]) <;> first | assumption | omega | decide)) (by first | assumption | decide | ((simp only [md1, md2, rkR, Nat.beq_refl, Bool.not_true, fsx, fsy]) <;> first | assumption | omega | decide)) (by first | assumption | decide | ((simp only [md1, md2, rkR, Nat.beq_refl, Bool.not_true, fsx, fsy]) <;> first | assumption | omega | decide)) (by first | assumption | decide | ((simp only [md1, md2, rkR, Nat.beq_refl, Bool.not_true, fsx, fsy]) <;> first | assumption | omega | decide)) (by first | assumption | decide | ((simp only [md1, md2, rkR, Nat.beq_refl, Bool.not_true, fsx, fsy]) <;> first | assumption | omega | decide)) (by first | assumption | decide | ((simp only [md1, md2, rkR, Nat.beq_refl, Bool.not_true, fsx, fsy]) <;> first | assumption | omega | decide)) (by first | assumption | decide | ((simp only [md1, md2, rkR, Nat.beq_refl, Bool.not_true, fsx, fsy]) <;> first | assumption | omega | decide)) (by first | assumption | decide | ((simp only [md1, md2, rkR, Nat.beq_refl, Bool.not_true, fsx, fsy]) <;> first | assumption | omega | decide)) (by first | assumption | decide | ((simp only [md1, md2, rkR, Nat.beq_refl, Bool.not_true, fsx, fsy]) <;> first | assumption | omega | decide))) rfl (fun c hc => by have := hc 0 Sx.MM.none; simpa only [Sx.Rep] using this) w hr
      · have hd' : decide (IntKind.u64.wrap (IntKind.u64.wrap (Sx.rk b.toNat - R) - IntKind.u64.wrap (R - Sx.rk a.toNat)) = 0) = false := decide_eq_false hd
        refine Sx.pure_true call2_ok Try.func5 rfl (by kernel_rfl) (half_44 a b ha ha2 hb hb2 (by first | assumption | decide | ((simp only [md1, md2, rkR, Nat.beq_refl, Bool.not_true, fsx, fsy]) <;> first | assumption | omega | decide)) (by first | assumption | decide | ((simp only [md1, md2, rkR, Nat.beq_refl, Bool.not_true, fsx, fsy]) <;> first | assumption | omega | decide)) (by first | assumption | decide | ((simp only [md1, md2, rkR, Nat.beq_refl, Bool.not_true, fsx, fsy]) <;> first | assumption | omega | decide)) (by first | assumption | decide | ((simp only [md1, md2, rkR, Nat.beq_refl, Bool.not_true, fsx, fsy]) <;> first | assumption | omega | decide)) (by first | assumption | decide | ((simp only [md1, md2, rkR, Nat.beq_refl, Bool.not_true, fsx, fsy]) <;> first | assumption | omega | decide)) (by first | assumption | decide | ((simp only [md1, md2, rkR, Nat.beq_refl, Bool.not_true, fsx, fsy]) <;> first | assumption | omega | decide)) (by first | assumption | decide | ((simp only [md1, md2, rkR, Nat.beq_refl, Bool.not_true, fsx, fsy]) <;> first | assumption | omega | decide)) (by first | assumption | decide | ((simp only [md1, md2, rkR, Nat.beq_refl, Bool.not_true, fsx, fsy]) <;> first | assumption | omega | decide)) (by first | assumption | decide | ((simp only [md1, md2, rkR, Nat.beq_refl, Bool.not_true, fsx, fsy]) <;> first | assumption | omega | decide)) (by first | assumption | decide | ((simp only [md1, md2, rkR, Nat.beq_refl, Bool.not_true, fsx, fsy]) <;> first | assumption | omega | decide)) (by first | assumption | decide | ((simp only [md1, md2, rkR, Nat.beq_refl, Bool.not_true, fsx, fsy]) <;> first | assumption | omega | decide)) (by first | assumption | decide | ((simp only [md1, md2, rkR, Nat.beq_refl, Bool.not_true, fsx, fsy]) <;> first | assumption | omega | decide)) (by first | assumption | decide | ((simp only [md1, md2, rkR, Nat.beq_refl, Bool.not_true, fsx, fsy]) <;> first | assumption | omega | decide)) (by first | assumption | decide | ((simp only [md1, md2, rkR, Nat.beq_refl, Bool.not_true, fsx, fsy]) <;> first | assumption | omega | decide)) (by first | assumption | decide | ((simp only [md1, md2, rkR, Nat.beq_refl, Bool.not_true, fsx, fsy]) <;> first | assumption | omega | decide)) (by first | assumption | decide | ((simp only [md1, md2, rkR, Nat.beq_refl, Bool.not_true, fsx, fsy]) <;> first | assumption | omega | decide)) (by first | assumption | decide | ((simp only [md1, md2, rkR, Nat.beq_refl, Bool.not_true, fsx, fsy]) <;> first | assumption | omega | decide)) (by first | assumption | decide | ((simp only [md1, md2, rkR, Nat.beq_refl, Bool.not_true, fsx, fsy]) <;> first | assumption | omega | decide)) (by first | assumption | decide | ((simp only [md1, md2, rkR, Nat.beq_refl, Bool.not_true, fsx, fsy]) <;> first | assumption | omega | decide)) (by first | assumption | decide | ((simp only [md1, md2, rkR, Nat.beq_refl, Bool.not_true, fsx, fsy]) <;> first | assumption | omega | decide)) (by first | assumption | decide | ((simp only [md1, md2, rkR, Nat.beq_refl, Bool.not_true, fsx, fsy]) <;> first | assumption | omega | decide)) (by first | assumption | decide | ((simp only [md1, md2, rkR, Nat.beq_refl, Bool.not_true, fsx, fsy]) <;> first | assumption | omega | decide)) (by first | assumption | decide | ((simp only [md1, md2, rkR, Nat.beq_refl, Bool.not_true, fsx, fsy]) <;> first | assumption | omega | decide)) (by first | assumption | decide | ((simp only [md1, md2, rkR, Nat.beq_refl, Bool.not_true, fsx, fsy]) <;> first | assumption | omega | decide)) (by first | assumption | decide | ((simp only [md1, md2, rkR, Nat.beq_refl, Bool.not_true, fsx, fsy]) <;> first | assumption | omega | decide)) (by first | assumption | decide | ((simp only [md1, md2, rkR, Nat.beq_refl, Bool.not_true, fsx, fsy]) <;> first | assumption | omega | decide)) (by first | assumption | decide | ((simp only [md1, md2, rkR, Nat.beq_refl, Bool.not_true, fsx, fsy]) <;> first | assumption | omega | decide)) (by first | assumption | decide | ((simp only [md1, md2, rkR, Nat.beq_refl, Bool.not_true, fsx, fsy]) <;> first | assumption | omega | decide)) (by first | assumption | decide | ((simp only [md1, md2, rkR, Nat.beq_refl, Bool.not_true, fsx, fsy]) <;> first | assumption | omega | decide)) (by first | assumption | decide | ((simp only [md1, md2, rkR, Nat.beq_refl, Bool.not_true, fsx, fsy]) <;> first | assumption | omega | decide)) (by first | assumption | decide | ((simp only [md1, md2, rkR, Nat.beq_refl, Bool.not_true, fsx, fsy]) <;> first | assumption | omega | decide)) (by first | assumption | decide | ((simp only [md1, md2, rkR, Nat.beq_refl, Bool.not_true, fsx, fsy]) <;> first | assumption | omega | decide))) rfl (fun c hc => ?_) w hr
        have := hc 0 Sx.MM.none
        simp only [Sx.Rep, md1, md2, rkR] at this
        rw [this]
        congr 1
        rw [w4] at hd ⊢
        exact decide_eq_true (by omega)
theorem half_walk (a b : Int) (ha : 0 ≤ a) (ha2 : a < 18446744073709551616) (hb : 0 ≤ b) (hb2 : b < 18446744073709551616) (w : World) :
    Calls Try.prog 5 #[.int .u64 a, .int .u64 b] w fun e w' => e = .returned (.bool true) ∧ Below w.heap.size w w' := by
  cases hs : Sx.flt (Sx.cn b.toNat) (Sx.cn a.toNat) with
  | true => exact half_t a b ha ha2 hb hb2 hs w
  | false => exact half_f a b ha ha2 hb hb2 hs w
theorem law_walk (a0 a1 : Int) (w0 : (Lit.int .u64 a0).wf = true) (w1 : (Lit.int .u64 a1).wf = true) (w : World) :
    Calls Try.prog 5 #[.int .u64 a0, .int .u64 a1] w fun e w' => e = .returned (.bool true) ∧ Below w.heap.size w w' := by
  simp only [Lit.wf, Bool.and_eq_true, decide_eq_true_eq, IntKind.min, IntKind.max, IntKind.bits, IntKind.signed] at w0 w1
  exact half_walk a0 a1 (by simpa using w0.1) (by have := w0.2; simp at this; omega) (by simpa using w1.1) (by have := w1.2; simp at this; omega) w

set_option maxRecDepth 100000 in
theorem law_lifted (os : Os) (started : os.Started) (H : Type) (enc : TypeId × Value → H) :
    ReturnsInHanded {} Try.checked os 5 .any (Rows.bisectHalvesSpec.pre6 enc Try.prog Try.f5 Rows.bisectHalvesRow.domain false) (Rows.bisectHalvesSpec.post enc Try.prog Try.f5 false true false false) := by
  refine returnsInHanded_of_change (C := Try.checked) own started (by kernel_rfl) Try.func5
    (ChangeSpec.witness6 (enc := enc) (C := Try.checked) false ⟨#[], #[.int .u64 0, .int .u64 0], []⟩ 8 (by kernel_rfl) (by kernel_rfl) (by kernel_rfl) (by kernel_rfl)) ?_
  intro W base args ds gs before hval0 hW hcnd _
  have hval : ∀ (j : Nat) t v, Try.f5.params[j]? = some t → args[j]? = some v → Value.okWide Try.prog W .any base t v := hval0
  have hW' := hW
  obtain ⟨p, q, hA0, hV, rfl, hfz, hnd⟩ := hW
  have hA : DataW.TrodAll enc Try.prog W 0 (fun _ => true) true Try.f5.params.toList args.toList ds p := hA0
  rw [Try.params5] at hA hval
  obtain ⟨v0, vs0, d0, ds0, p0, q0, hargs, rfl, rfl, h0, r0⟩ := trodAll_cons hA
  obtain ⟨v1, vs1, d1, ds1, p1, q1, rfl, rfl, rfl, h1, r1⟩ := trodAll_cons r0
  obtain ⟨rfl, rfl, rfl⟩ := trodAll_nil r1
  obtain rfl : args = #[v0, v1] := by cases args; simp_all
  obtain ⟨rfl, rfl⟩ := trodVars_none hV
  obtain ⟨a0, rfl, rfl, rfl, w0⟩ := open_int Try.underlying22 (hval 0 22 v0 rfl rfl) h0
  obtain ⟨a1, rfl, rfl, rfl, w1⟩ := open_int Try.underlying22 (hval 1 22 v1 rfl rfl) h1
  clear hA0 hval0
  simp only [List.append_nil] at hW'
  refine (law_walk a0 a1 w0 w1 W).mono fun e W' ⟨he, bel⟩ => ?_
  subst he
  exact ⟨_, rfl, _, _, _, [], [], [], hW', trodAll_mk1 (shut_bool Try.underlying4 _), (trodAll_cons_mk (shut_int Try.underlying22 w0) (trodAll_cons_mk (shut_int Try.underlying22 w1) trodAll_mk0)), rfl, bel.frame _, fun h => by cases h⟩
theorem law_over : Rows.bisectHalvesRow.holds Try.pinned (OpenSpec.ofChange Rows.bisectHalvesSpec) :=
  OpenClaim.holds_of_wide 5 Try.f5 rfl rfl rfl rfl rfl rfl rfl ⟨rfl, rfl, rfl, rfl, rfl⟩ rfl rfl rfl rfl rfl (by kernel_rfl) Try.func5 (by kernel_rfl)
    (of_decide_eq_true (by kernel_rfl)) (by unfold Func.isWrapper; first | (rw [if_pos (by decide +kernel)]; kernel_rfl) | (rw [if_neg (by decide +kernel)]; exact ⟨rfl, rfl⟩))
    (fun os started H enc _ => law_lifted os started H enc)
/-- THE STATEMENT -/
theorem bisectHalves_proved : Rows.BisectHalvesSaid := law_over
#print axioms bisectHalves_proved
end Go.Proofs.Ytilmplaobpmdpaa
