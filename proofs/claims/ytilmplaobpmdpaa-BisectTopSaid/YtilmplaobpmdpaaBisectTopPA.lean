/- BisectTop: a part: summaries of functions that the statement reaches, printed by program, checked by the kernel. -/
import Derived.ProofKit
import Derived.OpenShut
import Derived.KernelRfl
import Derived.SizedLaws
import Derived.Test.YtilmplaobpmdpaaProg
import Derived.Test.YtilmplaobpmdpaaSm3
namespace Go.Proofs.Ytilmplaobpmdpaa
open Go.ChangeShapes Go.WideShapes Go.ChangeAt Go.RowKit
set_option linter.unusedVariables false
set_option linter.unusedSimpArgs false
set_option maxRecDepth 100000

noncomputable def gam0 : Sx.Known := fun f => bif Nat.beq f 11 then some Sx.ofBits else bif Nat.beq f 48 then some Sx.toBits else none
theorem gam0_ok : Sx.KnownOk Try.prog gam0 := by
 intro f s h
 unfold gam0 at h
 cases h1 : Nat.beq f 11 with
 | true =>
  rw [h1] at h
  cases h
  cases Nat.eq_of_beq_eq_true h1
  exact (Sx.ofBits_is Try.prog).callIs Try.func11 (by kernel_rfl) (by kernel_rfl) (by kernel_rfl) (by kernel_rfl)
 | false =>
  rw [h1, cond_false] at h
  cases h2 : Nat.beq f 48 with
  | true =>
   rw [h2] at h
   cases h
   cases Nat.eq_of_beq_eq_true h2
   exact (Sx.toBits_is Try.prog).callIs Try.func48 (by kernel_rfl) (by kernel_rfl) (by kernel_rfl) (by kernel_rfl)
  | false => rw [h2] at h; cases h
theorem gam0_tch : Sx.KnownT gam0 := by
 intro f s h
 unfold gam0 at h
 cases h1 : Nat.beq f 11 with
 | true => rw [h1] at h; cases h; exact Sx.Tch.ofBits
 | false =>
  rw [h1, cond_false] at h
  cases h2 : Nat.beq f 48 with
  | true => rw [h2] at h; cases h; exact Sx.Tch.toBits
  | false => rw [h2] at h; cases h
noncomputable def call0 : Sx.Calls' := Sx.runN Try.prog gam0 (Sx.regionA Try.prog) 1000 50
theorem sound0 : Sx.CallOk Try.prog call0 := Sx.engine gam0_ok gam0_tch (by kernel_rfl) (by kernel_rfl) 1000 50

theorem fin_0 (n : Nat) (c0 : (0 : Int) ≤ Sx.bitsV Go.BinOp.andNot IntKind.u64 (↑n : Int) (9223372036854775808 : Int)) (c1 : Sx.bitsV Go.BinOp.andNot IntKind.u64 (↑n : Int) (9223372036854775808 : Int) < (18446744073709551616 : Int)) (c2 : (!Sx.fgt (Sx.cn (Int.toNat (Sx.bitsV Go.BinOp.andNot IntKind.u64 (↑n : Int) (9223372036854775808 : Int))))
   (Sx.cn (9218868437227405311 : Nat))) =
 true) : Sx.PureP (Sx.AV.sbool (Sx.feq (Sx.cn n) (Sx.cn n))) (call0 43 [.raw true n] (Sx.G.on [true])) := by
 have e : Sx.pureP (Sx.AV.sbool (Sx.feq (Sx.cn n) (Sx.cn n))) (call0 43 [.raw true n] (Sx.G.on [true])) = ((Sx.AV.sbool (Sx.feq (Sx.cn n) (Sx.cn n))) = (Sx.AV.sbool (Sx.feq (Sx.cn n) (Sx.cn n))) ∧ ((True ∧ (((0 : Int) ≤ Sx.bitsV Go.BinOp.andNot IntKind.u64 (↑n : Int) (9223372036854775808 : Int)) ∧ (Sx.bitsV Go.BinOp.andNot IntKind.u64 (↑n : Int) (9223372036854775808 : Int) < (18446744073709551616 : Int)))) ∧ ((!Sx.fgt (Sx.cn (Int.toNat (Sx.bitsV Go.BinOp.andNot IntKind.u64 (↑n : Int) (9223372036854775808 : Int))))
   (Sx.cn (9218868437227405311 : Nat))) =
 true))) := by kernel_rfl
 exact ⟨by rw [e]; exact ⟨rfl, ⟨⟨trivial, ⟨c0, c1⟩⟩, c2⟩⟩⟩
theorem fin_1 (n : Nat) (c0 : (0 : Int) ≤ Sx.bitsV Go.BinOp.andNot IntKind.u64 (↑n : Int) (9223372036854775808 : Int)) (c1 : Sx.bitsV Go.BinOp.andNot IntKind.u64 (↑n : Int) (9223372036854775808 : Int) < (18446744073709551616 : Int)) (c2 : (!Sx.fgt (Sx.cn (Int.toNat (Sx.bitsV Go.BinOp.andNot IntKind.u64 (↑n : Int) (9223372036854775808 : Int))))
   (Sx.cn (9218868437227405311 : Nat))) =
 false) : Sx.PureP (Sx.AV.bool false) (call0 43 [.raw true n] (Sx.G.on [false])) := by
 have e : Sx.pureP (Sx.AV.bool false) (call0 43 [.raw true n] (Sx.G.on [false])) = ((Sx.AV.bool false) = (Sx.AV.bool false) ∧ ((True ∧ (((0 : Int) ≤ Sx.bitsV Go.BinOp.andNot IntKind.u64 (↑n : Int) (9223372036854775808 : Int)) ∧ (Sx.bitsV Go.BinOp.andNot IntKind.u64 (↑n : Int) (9223372036854775808 : Int) < (18446744073709551616 : Int)))) ∧ ((!Sx.fgt (Sx.cn (Int.toNat (Sx.bitsV Go.BinOp.andNot IntKind.u64 (↑n : Int) (9223372036854775808 : Int))))
   (Sx.cn (9218868437227405311 : Nat))) =
 false))) := by kernel_rfl
 exact ⟨by rw [e]; exact ⟨rfl, ⟨⟨trivial, ⟨c0, c1⟩⟩, c2⟩⟩⟩
theorem rfin_0 (n : Nat) : Sx.PureP (Sx.AV.sbool (Sx.feq (Sx.fsub (Sx.cn n) (Sx.cn n)) (Sx.cn (0 : Nat)))) (call0 46 [.raw true n] (Sx.G.on [])) := by
 have e : Sx.pureP (Sx.AV.sbool (Sx.feq (Sx.fsub (Sx.cn n) (Sx.cn n)) (Sx.cn (0 : Nat)))) (call0 46 [.raw true n] (Sx.G.on [])) = ((Sx.AV.sbool (Sx.feq (Sx.fsub (Sx.cn n) (Sx.cn n)) (Sx.cn (0 : Nat)))) = (Sx.AV.sbool (Sx.feq (Sx.fsub (Sx.cn n) (Sx.cn n)) (Sx.cn (0 : Nat)))) ∧ True) := by kernel_rfl
 exact ⟨by rw [e]; exact ⟨rfl, trivial⟩⟩
theorem place_1 (n : Nat) (c0 : (!Sx.feq (Sx.cn n) (Sx.cn n)) = false) (c1 : (-9223372036854775808 : Int) ≤ Sx.bitsV Go.BinOp.andNot IntKind.u64 (↑n : Int) (9223372036854775808 : Int)) (c2 : Sx.bitsV Go.BinOp.andNot IntKind.u64 (↑n : Int) (9223372036854775808 : Int) ≤ (9223372036854775807 : Int)) (c3 : (0 : Int) ≤ (63 : Int)) (c4 : decide
  (Int.fdiv (↑n : Int) ((2 : Int) ^ Min.min (Int.toNat (63 : Int)) (IntKind.bits IntKind.u64)) = (1 : Int)) =
 true) (c5 : (-9223372036854775808 : Int) ≤
 (0 : Int) - Sx.bitsV Go.BinOp.andNot IntKind.u64 (↑n : Int) (9223372036854775808 : Int)) (c6 : (0 : Int) - Sx.bitsV Go.BinOp.andNot IntKind.u64 (↑n : Int) (9223372036854775808 : Int) ≤
 (9223372036854775807 : Int)) : Sx.PureP (Sx.AV.tup
 [Sx.AV.int true .i64
   ((0 : Int) - Sx.bitsV Go.BinOp.andNot IntKind.u64 (↑n : Int) (9223372036854775808 : Int)),
  Sx.AV.bool true]) (call0 24 [.raw true n] (Sx.G.on [false, true])) := by
 have e : Sx.pureP (Sx.AV.tup
 [Sx.AV.int true .i64
   ((0 : Int) - Sx.bitsV Go.BinOp.andNot IntKind.u64 (↑n : Int) (9223372036854775808 : Int)),
  Sx.AV.bool true]) (call0 24 [.raw true n] (Sx.G.on [false, true])) = ((Sx.AV.tup
 [Sx.AV.int true .i64
   ((0 : Int) - Sx.bitsV Go.BinOp.andNot IntKind.u64 (↑n : Int) (9223372036854775808 : Int)),
  Sx.AV.bool true]) = (Sx.AV.tup
 [Sx.AV.int true .i64
   ((0 : Int) - Sx.bitsV Go.BinOp.andNot IntKind.u64 (↑n : Int) (9223372036854775808 : Int)),
  Sx.AV.bool true]) ∧ (((((True ∧ ((!Sx.feq (Sx.cn n) (Sx.cn n)) = false)) ∧ (((-9223372036854775808 : Int) ≤ Sx.bitsV Go.BinOp.andNot IntKind.u64 (↑n : Int) (9223372036854775808 : Int)) ∧ (Sx.bitsV Go.BinOp.andNot IntKind.u64 (↑n : Int) (9223372036854775808 : Int) ≤ (9223372036854775807 : Int)))) ∧ ((0 : Int) ≤ (63 : Int))) ∧ (decide
  (Int.fdiv (↑n : Int) ((2 : Int) ^ Min.min (Int.toNat (63 : Int)) (IntKind.bits IntKind.u64)) = (1 : Int)) =
 true)) ∧ (((-9223372036854775808 : Int) ≤
 (0 : Int) - Sx.bitsV Go.BinOp.andNot IntKind.u64 (↑n : Int) (9223372036854775808 : Int)) ∧ ((0 : Int) - Sx.bitsV Go.BinOp.andNot IntKind.u64 (↑n : Int) (9223372036854775808 : Int) ≤
 (9223372036854775807 : Int))))) := by kernel_rfl
 exact ⟨by rw [e]; exact ⟨rfl, ⟨⟨⟨⟨⟨trivial, c0⟩, ⟨c1, c2⟩⟩, c3⟩, c4⟩, ⟨c5, c6⟩⟩⟩⟩
theorem place_2 (n : Nat) (c0 : (!Sx.feq (Sx.cn n) (Sx.cn n)) = false) (c1 : (-9223372036854775808 : Int) ≤ Sx.bitsV Go.BinOp.andNot IntKind.u64 (↑n : Int) (9223372036854775808 : Int)) (c2 : Sx.bitsV Go.BinOp.andNot IntKind.u64 (↑n : Int) (9223372036854775808 : Int) ≤ (9223372036854775807 : Int)) (c3 : (0 : Int) ≤ (63 : Int)) (c4 : decide
  (Int.fdiv (↑n : Int) ((2 : Int) ^ Min.min (Int.toNat (63 : Int)) (IntKind.bits IntKind.u64)) = (1 : Int)) =
 false) : Sx.PureP (Sx.AV.tup
 [Sx.AV.int true .i64
   (Sx.bitsV Go.BinOp.andNot IntKind.u64 (↑n : Int) (9223372036854775808 : Int)),
  Sx.AV.bool true]) (call0 24 [.raw true n] (Sx.G.on [false, false])) := by
 have e : Sx.pureP (Sx.AV.tup
 [Sx.AV.int true .i64
   (Sx.bitsV Go.BinOp.andNot IntKind.u64 (↑n : Int) (9223372036854775808 : Int)),
  Sx.AV.bool true]) (call0 24 [.raw true n] (Sx.G.on [false, false])) = ((Sx.AV.tup
 [Sx.AV.int true .i64
   (Sx.bitsV Go.BinOp.andNot IntKind.u64 (↑n : Int) (9223372036854775808 : Int)),
  Sx.AV.bool true]) = (Sx.AV.tup
 [Sx.AV.int true .i64
   (Sx.bitsV Go.BinOp.andNot IntKind.u64 (↑n : Int) (9223372036854775808 : Int)),
  Sx.AV.bool true]) ∧ ((((True ∧ ((!Sx.feq (Sx.cn n) (Sx.cn n)) = false)) ∧ (((-9223372036854775808 : Int) ≤ Sx.bitsV Go.BinOp.andNot IntKind.u64 (↑n : Int) (9223372036854775808 : Int)) ∧ (Sx.bitsV Go.BinOp.andNot IntKind.u64 (↑n : Int) (9223372036854775808 : Int) ≤ (9223372036854775807 : Int)))) ∧ ((0 : Int) ≤ (63 : Int))) ∧ (decide
  (Int.fdiv (↑n : Int) ((2 : Int) ^ Min.min (Int.toNat (63 : Int)) (IntKind.bits IntKind.u64)) = (1 : Int)) =
 false))) := by kernel_rfl
 exact ⟨by rw [e]; exact ⟨rfl, ⟨⟨⟨⟨trivial, c0⟩, ⟨c1, c2⟩⟩, c3⟩, c4⟩⟩⟩
theorem rplace_0 (n : Nat) (c0 : (0 : Int) ≤ Sx.bitsV Go.BinOp.andNot IntKind.u64 (↑n : Int) (9223372036854775808 : Int)) (c1 : Sx.bitsV Go.BinOp.andNot IntKind.u64 (↑n : Int) (9223372036854775808 : Int) < (18446744073709551616 : Int)) (c2 : (-9223372036854775808 : Int) ≤
 (↑(Int.toNat (Sx.bitsV Go.BinOp.andNot IntKind.u64 (↑n : Int) (9223372036854775808 : Int))) : Int)) (c3 : (↑(Int.toNat (Sx.bitsV Go.BinOp.andNot IntKind.u64 (↑n : Int) (9223372036854775808 : Int))) : Int) ≤
 (9223372036854775807 : Int)) (c4 : Sx.flt (Sx.cn n) (Sx.cn (0 : Nat)) = true) (c5 : (-9223372036854775808 : Int) ≤
 (0 : Int) - (↑(Int.toNat (Sx.bitsV Go.BinOp.andNot IntKind.u64 (↑n : Int) (9223372036854775808 : Int))) : Int)) (c6 : (0 : Int) - (↑(Int.toNat (Sx.bitsV Go.BinOp.andNot IntKind.u64 (↑n : Int) (9223372036854775808 : Int))) : Int) ≤
 (9223372036854775807 : Int)) : Sx.PureP (Sx.AV.int true .i64
 ((0 : Int) - (↑(Int.toNat (Sx.bitsV Go.BinOp.andNot IntKind.u64 (↑n : Int) (9223372036854775808 : Int))) : Int))) (call0 66 [.raw true n] (Sx.G.on [true])) := by
 have e : Sx.pureP (Sx.AV.int true .i64
 ((0 : Int) - (↑(Int.toNat (Sx.bitsV Go.BinOp.andNot IntKind.u64 (↑n : Int) (9223372036854775808 : Int))) : Int))) (call0 66 [.raw true n] (Sx.G.on [true])) = ((Sx.AV.int true .i64
 ((0 : Int) - (↑(Int.toNat (Sx.bitsV Go.BinOp.andNot IntKind.u64 (↑n : Int) (9223372036854775808 : Int))) : Int))) = (Sx.AV.int true .i64
 ((0 : Int) - (↑(Int.toNat (Sx.bitsV Go.BinOp.andNot IntKind.u64 (↑n : Int) (9223372036854775808 : Int))) : Int))) ∧ ((((True ∧ (((0 : Int) ≤ Sx.bitsV Go.BinOp.andNot IntKind.u64 (↑n : Int) (9223372036854775808 : Int)) ∧ (Sx.bitsV Go.BinOp.andNot IntKind.u64 (↑n : Int) (9223372036854775808 : Int) < (18446744073709551616 : Int)))) ∧ (((-9223372036854775808 : Int) ≤
 (↑(Int.toNat (Sx.bitsV Go.BinOp.andNot IntKind.u64 (↑n : Int) (9223372036854775808 : Int))) : Int)) ∧ ((↑(Int.toNat (Sx.bitsV Go.BinOp.andNot IntKind.u64 (↑n : Int) (9223372036854775808 : Int))) : Int) ≤
 (9223372036854775807 : Int)))) ∧ (Sx.flt (Sx.cn n) (Sx.cn (0 : Nat)) = true)) ∧ (((-9223372036854775808 : Int) ≤
 (0 : Int) - (↑(Int.toNat (Sx.bitsV Go.BinOp.andNot IntKind.u64 (↑n : Int) (9223372036854775808 : Int))) : Int)) ∧ ((0 : Int) - (↑(Int.toNat (Sx.bitsV Go.BinOp.andNot IntKind.u64 (↑n : Int) (9223372036854775808 : Int))) : Int) ≤
 (9223372036854775807 : Int))))) := by kernel_rfl
 exact ⟨by rw [e]; exact ⟨rfl, ⟨⟨⟨⟨trivial, ⟨c0, c1⟩⟩, ⟨c2, c3⟩⟩, c4⟩, ⟨c5, c6⟩⟩⟩⟩
theorem rplace_1 (n : Nat) (c0 : (0 : Int) ≤ Sx.bitsV Go.BinOp.andNot IntKind.u64 (↑n : Int) (9223372036854775808 : Int)) (c1 : Sx.bitsV Go.BinOp.andNot IntKind.u64 (↑n : Int) (9223372036854775808 : Int) < (18446744073709551616 : Int)) (c2 : (-9223372036854775808 : Int) ≤
 (↑(Int.toNat (Sx.bitsV Go.BinOp.andNot IntKind.u64 (↑n : Int) (9223372036854775808 : Int))) : Int)) (c3 : (↑(Int.toNat (Sx.bitsV Go.BinOp.andNot IntKind.u64 (↑n : Int) (9223372036854775808 : Int))) : Int) ≤
 (9223372036854775807 : Int)) (c4 : Sx.flt (Sx.cn n) (Sx.cn (0 : Nat)) = false) : Sx.PureP (Sx.AV.int true .i64
 (↑(Int.toNat (Sx.bitsV Go.BinOp.andNot IntKind.u64 (↑n : Int) (9223372036854775808 : Int))) : Int)) (call0 66 [.raw true n] (Sx.G.on [false])) := by
 have e : Sx.pureP (Sx.AV.int true .i64
 (↑(Int.toNat (Sx.bitsV Go.BinOp.andNot IntKind.u64 (↑n : Int) (9223372036854775808 : Int))) : Int)) (call0 66 [.raw true n] (Sx.G.on [false])) = ((Sx.AV.int true .i64
 (↑(Int.toNat (Sx.bitsV Go.BinOp.andNot IntKind.u64 (↑n : Int) (9223372036854775808 : Int))) : Int)) = (Sx.AV.int true .i64
 (↑(Int.toNat (Sx.bitsV Go.BinOp.andNot IntKind.u64 (↑n : Int) (9223372036854775808 : Int))) : Int)) ∧ (((True ∧ (((0 : Int) ≤ Sx.bitsV Go.BinOp.andNot IntKind.u64 (↑n : Int) (9223372036854775808 : Int)) ∧ (Sx.bitsV Go.BinOp.andNot IntKind.u64 (↑n : Int) (9223372036854775808 : Int) < (18446744073709551616 : Int)))) ∧ (((-9223372036854775808 : Int) ≤
 (↑(Int.toNat (Sx.bitsV Go.BinOp.andNot IntKind.u64 (↑n : Int) (9223372036854775808 : Int))) : Int)) ∧ ((↑(Int.toNat (Sx.bitsV Go.BinOp.andNot IntKind.u64 (↑n : Int) (9223372036854775808 : Int))) : Int) ≤
 (9223372036854775807 : Int)))) ∧ (Sx.flt (Sx.cn n) (Sx.cn (0 : Nat)) = false))) := by kernel_rfl
 exact ⟨by rw [e]; exact ⟨rfl, ⟨⟨⟨trivial, ⟨c0, c1⟩⟩, ⟨c2, c3⟩⟩, c4⟩⟩⟩
theorem at_2 (n : Int) (c0 : decide ((9218868437227405312 : Int) < n) = false) (c1 : decide (n < (-9218868437227405312 : Int)) = false) (c2 : decide (n < (0 : Int)) = true) (c3 : (-9223372036854775808 : Int) ≤ (0 : Int) - n) (c4 : (0 : Int) - n ≤ (9223372036854775807 : Int)) (c5 : (0 : Int) ≤
 Sx.bitsV Go.BinOp.or IntKind.u64 (IntKind.wrap IntKind.u64 ((0 : Int) - n)) (9223372036854775808 : Int)) (c6 : Sx.bitsV Go.BinOp.or IntKind.u64 (IntKind.wrap IntKind.u64 ((0 : Int) - n)) (9223372036854775808 : Int) <
 (18446744073709551616 : Int)) : Sx.PureP (Sx.AV.tup
 [Sx.AV.raw true
   (Int.toNat
    (Sx.bitsV Go.BinOp.or IntKind.u64 (IntKind.wrap IntKind.u64 ((0 : Int) - n))
     (9223372036854775808 : Int))),
  Sx.AV.bool true]) (call0 32 [.int true .i64 n] (Sx.G.on [false, false, true])) := by
 have e : Sx.pureP (Sx.AV.tup
 [Sx.AV.raw true
   (Int.toNat
    (Sx.bitsV Go.BinOp.or IntKind.u64 (IntKind.wrap IntKind.u64 ((0 : Int) - n))
     (9223372036854775808 : Int))),
  Sx.AV.bool true]) (call0 32 [.int true .i64 n] (Sx.G.on [false, false, true])) = ((Sx.AV.tup
 [Sx.AV.raw true
   (Int.toNat
    (Sx.bitsV Go.BinOp.or IntKind.u64 (IntKind.wrap IntKind.u64 ((0 : Int) - n))
     (9223372036854775808 : Int))),
  Sx.AV.bool true]) = (Sx.AV.tup
 [Sx.AV.raw true
   (Int.toNat
    (Sx.bitsV Go.BinOp.or IntKind.u64 (IntKind.wrap IntKind.u64 ((0 : Int) - n))
     (9223372036854775808 : Int))),
  Sx.AV.bool true]) ∧ (((((True ∧ (decide ((9218868437227405312 : Int) < n) = false)) ∧ (decide (n < (-9218868437227405312 : Int)) = false)) ∧ (decide (n < (0 : Int)) = true)) ∧ (((-9223372036854775808 : Int) ≤ (0 : Int) - n) ∧ ((0 : Int) - n ≤ (9223372036854775807 : Int)))) ∧ (((0 : Int) ≤
 Sx.bitsV Go.BinOp.or IntKind.u64 (IntKind.wrap IntKind.u64 ((0 : Int) - n)) (9223372036854775808 : Int)) ∧ (Sx.bitsV Go.BinOp.or IntKind.u64 (IntKind.wrap IntKind.u64 ((0 : Int) - n)) (9223372036854775808 : Int) <
 (18446744073709551616 : Int))))) := by kernel_rfl
 exact ⟨by rw [e]; exact ⟨rfl, ⟨⟨⟨⟨⟨trivial, c0⟩, c1⟩, c2⟩, ⟨c3, c4⟩⟩, ⟨c5, c6⟩⟩⟩⟩
theorem at_3 (n : Int) (c0 : decide ((9218868437227405312 : Int) < n) = false) (c1 : decide (n < (-9218868437227405312 : Int)) = false) (c2 : decide (n < (0 : Int)) = false) (c3 : (0 : Int) ≤ IntKind.wrap IntKind.u64 n) (c4 : IntKind.wrap IntKind.u64 n < (18446744073709551616 : Int)) : Sx.PureP (Sx.AV.tup [Sx.AV.raw true (Int.toNat (IntKind.wrap IntKind.u64 n)), Sx.AV.bool true]) (call0 32 [.int true .i64 n] (Sx.G.on [false, false, false])) := by
 have e : Sx.pureP (Sx.AV.tup [Sx.AV.raw true (Int.toNat (IntKind.wrap IntKind.u64 n)), Sx.AV.bool true]) (call0 32 [.int true .i64 n] (Sx.G.on [false, false, false])) = ((Sx.AV.tup [Sx.AV.raw true (Int.toNat (IntKind.wrap IntKind.u64 n)), Sx.AV.bool true]) = (Sx.AV.tup [Sx.AV.raw true (Int.toNat (IntKind.wrap IntKind.u64 n)), Sx.AV.bool true]) ∧ ((((True ∧ (decide ((9218868437227405312 : Int) < n) = false)) ∧ (decide (n < (-9218868437227405312 : Int)) = false)) ∧ (decide (n < (0 : Int)) = false)) ∧ (((0 : Int) ≤ IntKind.wrap IntKind.u64 n) ∧ (IntKind.wrap IntKind.u64 n < (18446744073709551616 : Int))))) := by kernel_rfl
 exact ⟨by rw [e]; exact ⟨rfl, ⟨⟨⟨⟨trivial, c0⟩, c1⟩, c2⟩, ⟨c3, c4⟩⟩⟩⟩
theorem rat_0 (n : Int) (c0 : decide (n < (0 : Int)) = true) (c1 : (-9223372036854775808 : Int) ≤ (0 : Int) - n) (c2 : (0 : Int) - n ≤ (9223372036854775807 : Int)) (c3 : (0 : Int) ≤ IntKind.wrap IntKind.u64 ((0 : Int) - n)) (c4 : IntKind.wrap IntKind.u64 ((0 : Int) - n) < (18446744073709551616 : Int)) : Sx.PureP (Sx.AV.flt true (Sx.fneg (Sx.cn (Int.toNat (IntKind.wrap IntKind.u64 ((0 : Int) - n)))))) (call0 67 [.int true .i64 n] (Sx.G.on [true])) := by
 have e : Sx.pureP (Sx.AV.flt true (Sx.fneg (Sx.cn (Int.toNat (IntKind.wrap IntKind.u64 ((0 : Int) - n)))))) (call0 67 [.int true .i64 n] (Sx.G.on [true])) = ((Sx.AV.flt true (Sx.fneg (Sx.cn (Int.toNat (IntKind.wrap IntKind.u64 ((0 : Int) - n)))))) = (Sx.AV.flt true (Sx.fneg (Sx.cn (Int.toNat (IntKind.wrap IntKind.u64 ((0 : Int) - n)))))) ∧ (((True ∧ (decide (n < (0 : Int)) = true)) ∧ (((-9223372036854775808 : Int) ≤ (0 : Int) - n) ∧ ((0 : Int) - n ≤ (9223372036854775807 : Int)))) ∧ (((0 : Int) ≤ IntKind.wrap IntKind.u64 ((0 : Int) - n)) ∧ (IntKind.wrap IntKind.u64 ((0 : Int) - n) < (18446744073709551616 : Int))))) := by kernel_rfl
 exact ⟨by rw [e]; exact ⟨rfl, ⟨⟨⟨trivial, c0⟩, ⟨c1, c2⟩⟩, ⟨c3, c4⟩⟩⟩⟩
theorem rat_1 (n : Int) (c0 : decide (n < (0 : Int)) = false) (c1 : (0 : Int) ≤ IntKind.wrap IntKind.u64 n) (c2 : IntKind.wrap IntKind.u64 n < (18446744073709551616 : Int)) : Sx.PureP (Sx.AV.raw true (Int.toNat (IntKind.wrap IntKind.u64 n))) (call0 67 [.int true .i64 n] (Sx.G.on [false])) := by
 have e : Sx.pureP (Sx.AV.raw true (Int.toNat (IntKind.wrap IntKind.u64 n))) (call0 67 [.int true .i64 n] (Sx.G.on [false])) = ((Sx.AV.raw true (Int.toNat (IntKind.wrap IntKind.u64 n))) = (Sx.AV.raw true (Int.toNat (IntKind.wrap IntKind.u64 n))) ∧ ((True ∧ (decide (n < (0 : Int)) = false)) ∧ (((0 : Int) ≤ IntKind.wrap IntKind.u64 n) ∧ (IntKind.wrap IntKind.u64 n < (18446744073709551616 : Int))))) := by kernel_rfl
 exact ⟨by rw [e]; exact ⟨rfl, ⟨⟨trivial, c0⟩, ⟨c1, c2⟩⟩⟩⟩
theorem same_0 (n m : Nat) (c0 : decide ((↑n : Int) = (↑m : Int)) = true) : Sx.PureP (Sx.AV.bool true) (call0 13 [.raw true n, .raw true m] (Sx.G.on [true])) := by
 have e : Sx.pureP (Sx.AV.bool true) (call0 13 [.raw true n, .raw true m] (Sx.G.on [true])) = ((Sx.AV.bool true) = (Sx.AV.bool true) ∧ (True ∧ (decide ((↑n : Int) = (↑m : Int)) = true))) := by kernel_rfl
 exact ⟨by rw [e]; exact ⟨rfl, ⟨trivial, c0⟩⟩⟩
theorem same_1 (n m : Nat) (c0 : decide ((↑n : Int) = (↑m : Int)) = false) (c1 : (!Sx.feq (Sx.cn n) (Sx.cn n)) = true) : Sx.PureP (Sx.AV.sbool !Sx.feq (Sx.cn m) (Sx.cn m)) (call0 13 [.raw true n, .raw true m] (Sx.G.on [false, true])) := by
 have e : Sx.pureP (Sx.AV.sbool !Sx.feq (Sx.cn m) (Sx.cn m)) (call0 13 [.raw true n, .raw true m] (Sx.G.on [false, true])) = ((Sx.AV.sbool !Sx.feq (Sx.cn m) (Sx.cn m)) = (Sx.AV.sbool !Sx.feq (Sx.cn m) (Sx.cn m)) ∧ ((True ∧ (decide ((↑n : Int) = (↑m : Int)) = false)) ∧ ((!Sx.feq (Sx.cn n) (Sx.cn n)) = true))) := by kernel_rfl
 exact ⟨by rw [e]; exact ⟨rfl, ⟨⟨trivial, c0⟩, c1⟩⟩⟩
theorem same_2 (n m : Nat) (c0 : decide ((↑n : Int) = (↑m : Int)) = false) (c1 : (!Sx.feq (Sx.cn n) (Sx.cn n)) = false) : Sx.PureP (Sx.AV.bool false) (call0 13 [.raw true n, .raw true m] (Sx.G.on [false, false])) := by
 have e : Sx.pureP (Sx.AV.bool false) (call0 13 [.raw true n, .raw true m] (Sx.G.on [false, false])) = ((Sx.AV.bool false) = (Sx.AV.bool false) ∧ ((True ∧ (decide ((↑n : Int) = (↑m : Int)) = false)) ∧ ((!Sx.feq (Sx.cn n) (Sx.cn n)) = false))) := by kernel_rfl
 exact ⟨by rw [e]; exact ⟨rfl, ⟨⟨trivial, c0⟩, c1⟩⟩⟩
theorem finD_cn {n : Nat} (h : n < 18446744073709551616) : Sx.finD (Sx.cn n) = Sx.finD n := by
 cases hn : Sx.isnan n with
 | false => rw [Sx.cn_of_not hn]
 | true =>
  rw [Sx.cn_of_nan hn]
  have : 9218868437227405312 < n % 9223372036854775808 := by simpa [Sx.isnan] using hn
  have e : Sx.finD n = false := decide_eq_false (by omega)
  rw [e]; decide
/-- the float that a raw or a plain one is -/
theorem one_flt {N : Nat} {μ : Sx.MM} {s : Bool} {x : Nat} {cargs : Array Value} (h : Sx.Reps N μ [.flt s x] cargs.toList) : ∃ b, cargs = #[.float .f64 b] ∧ Sx.cn b = x ∧ b < 18446744073709551616 := by
 obtain ⟨c, rfl, hx⟩ := h.one
 simp only [Sx.Rep] at hx
 obtain ⟨b, rfl, h1, h2⟩ := hx
 exact ⟨b, rfl, h1, h2⟩
theorem one_raw {N : Nat} {μ : Sx.MM} {s : Bool} {x : Nat} {cargs : Array Value} (h : Sx.Reps N μ [.raw s x] cargs.toList) : cargs = #[.float .f64 x] ∧ x < 18446744073709551616 := by
 obtain ⟨c, rfl, hx⟩ := h.one
 simp only [Sx.Rep] at hx
 obtain ⟨rfl, h2⟩ := hx
 exact ⟨rfl, h2⟩
theorem raw1 {x : Nat} (h : x < 18446744073709551616) : Sx.Reps 0 Sx.MM.none [.raw true x] (#[Value.float .f64 x] : Array Value).toList := by
 simp only [Sx.Reps, Sx.Rep]; exact ⟨_, _, rfl, ⟨rfl, h⟩, rfl⟩
/-- finite? -/
noncomputable def finS : List Sx.AV → Sx.M Sx.AV
 | [.raw s n] => Sx.M.ret (Sx.cmpB s (Sx.finD n))
 | [.flt s n] => Sx.M.ret (Sx.cmpB s (Sx.finD n))
 | _ => Sx.M.no
theorem finS_tch : ∀ args, Sx.Tch (finS args) := by
 intro args; unfold finS; split
 ·exact Sx.Tch.ret _
 ·exact Sx.Tch.ret _
 ·exact Sx.Tch.no
theorem fin_road (n : Nat) (h : n < 18446744073709551616) : ∃ path lv, Sx.PureP lv (call0 43 [.raw true n] (Sx.G.on path)) ∧ lv.low 0 = true ∧ ∀ c, (∀ N μ, Sx.Rep N μ lv c) → c = .bool (Sx.finD n) := by
 have e := Sx.andNot63 h
 have hm : n % 9223372036854775808 < 18446744073709551616 := by omega
 have key : Sx.fgt (Sx.cn (Int.toNat (Sx.bitsV .andNot .u64 (n : Int) 9223372036854775808))) (Sx.cn 9218868437227405311) = (!Sx.isnan n && !Sx.finD n) := by
  rw [e]; exact Sx.fin_gt h
 have b0 : 0 ≤ Sx.bitsV .andNot .u64 (n : Int) 9223372036854775808 := by rw [e]; omega
 have b1 : Sx.bitsV .andNot .u64 (n : Int) 9223372036854775808 < 18446744073709551616 := by rw [e]; omega
 cases hf : Sx.finD n with
 | true =>
  have hn := Sx.finD_notnan hf
  refine ⟨_, _, fin_0 n b0 b1 (by rw [key, hf, hn]; rfl), rfl, fun c hc => ?_⟩
  have := hc 0 Sx.MM.none
  simp only [Sx.Rep] at this
  rw [this, Sx.feq_self h, hn]; rfl
 | false =>
  cases hn : Sx.isnan n with
  | true =>
   refine ⟨_, _, fin_0 n b0 b1 (by rw [key, hf, hn]; rfl), rfl, fun c hc => ?_⟩
   have := hc 0 Sx.MM.none
   simp only [Sx.Rep] at this
   rw [this, Sx.feq_self h, hn]; rfl
  | false =>
   refine ⟨_, _, fin_1 n b0 b1 (by rw [key, hf, hn]; rfl), rfl, fun c hc => ?_⟩
   have := hc 0 Sx.MM.none
   simpa only [Sx.Rep] using this
theorem rfin_road (n : Nat) (h : n < 18446744073709551616) : ∃ path lv, Sx.PureP lv (call0 46 [.raw true n] (Sx.G.on path)) ∧ lv.low 0 = true ∧ ∀ c, (∀ N μ, Sx.Rep N μ lv c) → c = .bool (Sx.finD n) := by
 refine ⟨_, _, rfin_0 n, rfl, fun c hc => ?_⟩
 have := hc 0 Sx.MM.none
 simp only [Sx.Rep] at this
 rw [this, Sx.fin_sub h]
theorem finS_of {f : Nat} (road : ∀ n, n < 18446744073709551616 → ∃ path lv, Sx.PureP lv (call0 f [.raw true n] (Sx.G.on path)) ∧ lv.low 0 = true ∧ ∀ c, (∀ N μ, Sx.Rep N μ lv c) → c = .bool (Sx.finD n)) :
  ∀ args v g g', finS args g = .done v g' → Sx.CallIs Try.prog f args v g g' := by
 intro args v g g' h
 unfold finS at h
 split at h
 ·rename_i s n
  obtain ⟨rfl, rfl⟩ := Sx.ret_done h
  refine Sx.scal sound0 fun μ cargs ha => ?_
  obtain ⟨rfl, hn⟩ := one_raw ha
  obtain ⟨path, lv, h1, h2, h3⟩ := road n hn
  exact ⟨[.raw true n], path, lv, raw1 hn, h1, h2, fun c hc => Sx.Rep_cmpB.2 (h3 c hc)⟩
 ·rename_i s n
  obtain ⟨rfl, rfl⟩ := Sx.ret_done h
  refine Sx.scal sound0 fun μ cargs ha => ?_
  obtain ⟨b, rfl, rfl, hb⟩ := one_flt ha
  obtain ⟨path, lv, h1, h2, h3⟩ := road b hb
  exact ⟨[.raw true b], path, lv, raw1 hb, h1, h2, fun c hc => Sx.Rep_cmpB.2 (by rw [finD_cn hb]; exact h3 c hc)⟩
 ·exact (Sx.no_done h).elim
theorem fin43_ok : ∀ args v g g', finS args g = .done v g' → Sx.CallIs Try.prog 43 args v g g' := finS_of fin_road
theorem fin46_ok : ∀ args v g g', finS args g = .done v g' → Sx.CallIs Try.prog 46 args v g g' := finS_of rfin_road
/-- real.Place: of no NaN -/
noncomputable def placeS : List Sx.AV → Sx.M Sx.AV
 | [.raw s n] => (Sx.M.ck s (Sx.isnan n = false)).andThen fun _ => Sx.M.ret (.tup [.int s .i64 (Sx.rk n), .bool true])
 | [.flt s n] => (Sx.M.ck s (Sx.isnan n = false)).andThen fun _ => Sx.M.ret (.tup [.int s .i64 (Sx.rk n), .bool true])
 | _ => Sx.M.no
theorem placeS_tch : ∀ args, Sx.Tch (placeS args) := by
 intro args; unfold placeS; split
 ·exact (Sx.Tch.ck _ _).andThen fun _ => Sx.Tch.ret _
 ·exact (Sx.Tch.ck _ _).andThen fun _ => Sx.Tch.ret _
 ·exact Sx.Tch.no
theorem rk_neg {n : Nat} (h : n < 18446744073709551616) : (0 : Int) - ((n % 9223372036854775808 : Nat) : Int) = Sx.rk n ∨ ¬ 9223372036854775808 ≤ n := by
 unfold Sx.rk
 by_cases h1 : 9223372036854775808 ≤ n
 ·left; rw [if_pos h1]; omega
 ·exact .inr h1
theorem place_road (n : Nat) (h : n < 18446744073709551616) (hn : Sx.isnan n = false) : ∃ path lv, Sx.PureP lv (call0 24 [.raw true n] (Sx.G.on path)) ∧ lv.low 0 = true ∧ ∀ c, (∀ N μ, Sx.Rep N μ lv c) → ∀ N μ s, Sx.Rep N μ (.tup [.int s .i64 (Sx.rk n), .bool true]) c := by
 have e := Sx.andNot63 h
 have hm : n % 9223372036854775808 < 9223372036854775808 := by omega
 have c0 : (!Sx.feq (Sx.cn n) (Sx.cn n)) = false := by rw [Sx.feq_self h, hn]; rfl
 have sh := Sx.shr63 h
 by_cases h1 : 9223372036854775808 ≤ n
 ·refine ⟨_, _, place_1 n c0 (by rw [e]; omega) (by rw [e]; omega) (by decide) (by rw [sh]; exact decide_eq_true h1) (by rw [e]; omega) (by rw [e]; omega), rfl, fun c hc N μ s => ?_⟩
  have := hc N μ
  rw [e, (rk_neg h).resolve_right (fun h => h h1)] at this
  exact this
 ·refine ⟨_, _, place_2 n c0 (by rw [e]; omega) (by rw [e]; omega) (by decide) (by rw [sh]; exact decide_eq_false h1), rfl, fun c hc N μ s => ?_⟩
  have := hc N μ
  have e2 : ((n % 9223372036854775808 : Nat) : Int) = Sx.rk n := by unfold Sx.rk; rw [if_neg h1]; omega
  rw [e, e2] at this
  exact this
theorem place24_ok : ∀ args v g g', placeS args g = .done v g' → Sx.CallIs Try.prog 24 args v g g' := by
 intro args v g g' h
 unfold placeS at h
 split at h
 ·rename_i s n
  obtain ⟨_, g1, a1, h1⟩ := Sx.done_of h
  obtain ⟨rfl, rfl⟩ := Sx.ret_done h1
  refine Sx.scalK sound0 (Sx.ck_done a1) fun hp μ cargs ha => ?_
  obtain ⟨rfl, hn⟩ := one_raw ha
  obtain ⟨path, lv, h1, h2, h3⟩ := place_road n hn hp
  exact ⟨[.raw true n], path, lv, raw1 hn, h1, h2, fun c hc => h3 c hc _ _ _⟩
 ·rename_i s n
  obtain ⟨_, g1, a1, h1⟩ := Sx.done_of h
  obtain ⟨rfl, rfl⟩ := Sx.ret_done h1
  refine Sx.scalK sound0 (Sx.ck_done a1) fun hp μ cargs ha => ?_
  obtain ⟨b, rfl, rfl, hb⟩ := one_flt ha
  rw [Sx.isnan_cn] at hp
  obtain ⟨path, lv, h1, h2, h3⟩ := place_road b hb hp
  exact ⟨[.raw true b], path, lv, raw1 hb, h1, h2, fun c hc => by rw [Sx.cn_of_not hp]; exact h3 c hc _ _ _⟩
 ·exact (Sx.no_done h).elim
/-- the document's place -/
noncomputable def rplaceS : List Sx.AV → Sx.M Sx.AV
 | [.raw s n] => (Sx.M.ck s (Sx.isnan n = false)).andThen fun _ => Sx.M.ret (.int s .i64 (Sx.rk n))
 | [.flt s n] => (Sx.M.ck s (Sx.isnan n = false)).andThen fun _ => Sx.M.ret (.int s .i64 (Sx.rk n))
 | _ => Sx.M.no
theorem rplaceS_tch : ∀ args, Sx.Tch (rplaceS args) := by
 intro args; unfold rplaceS; split
 ·exact (Sx.Tch.ck _ _).andThen fun _ => Sx.Tch.ret _
 ·exact (Sx.Tch.ck _ _).andThen fun _ => Sx.Tch.ret _
 ·exact Sx.Tch.no
theorem rplace_road (n : Nat) (h : n < 18446744073709551616) (hn : Sx.isnan n = false) : ∃ path lv, Sx.PureP lv (call0 66 [.raw true n] (Sx.G.on path)) ∧ lv.low 0 = true ∧ ∀ c, (∀ N μ, Sx.Rep N μ lv c) → ∀ N μ s, Sx.Rep N μ (.int s .i64 (Sx.rk n)) c := by
 have e := Sx.andNot63 h
 have hm : n % 9223372036854775808 < 9223372036854775808 := by omega
 have fz := Sx.flt_zero h hn
 have e1 : ((Int.toNat (Sx.bitsV .andNot .u64 (n : Int) 9223372036854775808) : Nat) : Int) = ((n % 9223372036854775808 : Nat) : Int) := by rw [e]; omega
 by_cases h1 : Sx.rk n < 0
 ·have h2 : 9223372036854775808 ≤ n := by
   unfold Sx.rk at h1; split at h1 <;> omega
  refine ⟨_, _, rplace_0 n (by rw [e]; omega) (by rw [e]; omega) (by rw [e1]; omega) (by rw [e1]; omega) (by rw [fz]; exact decide_eq_true h1) (by rw [e1]; omega) (by rw [e1]; omega), rfl, fun c hc N μ s => ?_⟩
  have := hc N μ
  rw [e1, (rk_neg h).resolve_right (fun h => h h2)] at this
  exact this
 ·refine ⟨_, _, rplace_1 n (by rw [e]; omega) (by rw [e]; omega) (by rw [e1]; omega) (by rw [e1]; omega) (by rw [fz]; exact decide_eq_false h1), rfl, fun c hc N μ s => ?_⟩
  have := hc N μ
  have e2 : ((n % 9223372036854775808 : Nat) : Int) = Sx.rk n := by unfold Sx.rk at h1 ⊢; split at h1 <;> split <;> omega
  rw [e1, e2] at this
  exact this
theorem rplace66_ok : ∀ args v g g', rplaceS args g = .done v g' → Sx.CallIs Try.prog 66 args v g g' := by
 intro args v g g' h
 unfold rplaceS at h
 split at h
 ·rename_i s n
  obtain ⟨_, g1, a1, h1⟩ := Sx.done_of h
  obtain ⟨rfl, rfl⟩ := Sx.ret_done h1
  refine Sx.scalK sound0 (Sx.ck_done a1) fun hp μ cargs ha => ?_
  obtain ⟨rfl, hn⟩ := one_raw ha
  obtain ⟨path, lv, h1, h2, h3⟩ := rplace_road n hn hp
  exact ⟨[.raw true n], path, lv, raw1 hn, h1, h2, fun c hc => h3 c hc _ _ _⟩
 ·rename_i s n
  obtain ⟨_, g1, a1, h1⟩ := Sx.done_of h
  obtain ⟨rfl, rfl⟩ := Sx.ret_done h1
  refine Sx.scalK sound0 (Sx.ck_done a1) fun hp μ cargs ha => ?_
  obtain ⟨b, rfl, rfl, hb⟩ := one_flt ha
  rw [Sx.isnan_cn] at hp
  obtain ⟨path, lv, h1, h2, h3⟩ := rplace_road b hb hp
  exact ⟨[.raw true b], path, lv, raw1 hb, h1, h2, fun c hc => by rw [Sx.cn_of_not hp]; exact h3 c hc _ _ _⟩
 ·exact (Sx.no_done h).elim
/-- the float at a place, plus infinity's at the most -/
noncomputable def atS : List Sx.AV → Sx.M Sx.AV
 | [.int s .i64 p] => (Sx.M.ck s (-9218868437227405312 ≤ p ∧ p ≤ 9218868437227405312)).andThen fun _ => Sx.M.ret (.tup [.raw s (Sx.wd p), .bool true])
 | _ => Sx.M.no
theorem atS_tch : ∀ args, Sx.Tch (atS args) := by
 intro args; unfold atS; split
 ·exact (Sx.Tch.ck _ _).andThen fun _ => Sx.Tch.ret _
 ·exact Sx.Tch.no
theorem one_int {N : Nat} {μ : Sx.MM} {s : Bool} {k : IntKind} {x : Int} {cargs : Array Value} (h : Sx.Reps N μ [.int s k x] cargs.toList) : cargs = #[.int k x] := by
 obtain ⟨c, rfl, hx⟩ := h.one
 simp only [Sx.Rep] at hx
 rw [hx]
theorem int1 {k : IntKind} {x : Int} : Sx.Reps 0 Sx.MM.none [.int true k x] (#[Value.int k x] : Array Value).toList := by
 simp only [Sx.Reps, Sx.Rep]; exact ⟨_, _, rfl, rfl, rfl⟩
theorem at_road (p : Int) (h : -9218868437227405312 ≤ p) (h2 : p ≤ 9218868437227405312) : ∃ path lv, Sx.PureP lv (call0 32 [.int true .i64 p] (Sx.G.on path)) ∧ lv.low 0 = true ∧ ∀ c, (∀ N μ, Sx.Rep N μ lv c) → ∀ N μ s, Sx.Rep N μ (.tup [.raw s (Sx.wd p), .bool true]) c := by
 have c0 : decide (9218868437227405312 < p) = false := decide_eq_false (by omega)
 have c1 : decide (p < -9218868437227405312) = false := decide_eq_false (by omega)
 by_cases hp : p < 0
 ·have w : IntKind.u64.wrap (0 - p) = 0 - p := by
   obtain ⟨m, hm⟩ := Int.eq_ofNat_of_zero_le (show 0 ≤ 0 - p by omega)
   rw [hm]; exact Sx.wrap_u64 (by omega)
  have o : Sx.bitsV .or .u64 (IntKind.u64.wrap (0 - p)) 9223372036854775808 = 9223372036854775808 + (0 - p) := by
   rw [w]; exact Sx.or63 (by omega) (by omega)
  refine ⟨_, _, at_2 p c0 c1 (decide_eq_true hp) (by omega) (by omega) (by rw [o]; omega) (by rw [o]; omega), rfl, fun c hc N μ s => ?_⟩
  have := hc N μ
  have e : (Sx.bitsV .or .u64 (IntKind.u64.wrap (0 - p)) 9223372036854775808).toNat = Sx.wd p := by
   rw [o]; unfold Sx.wd; rw [if_pos hp]; omega
  rw [e] at this
  exact this
 ·have w : IntKind.u64.wrap p = p := by
   obtain ⟨m, hm⟩ := Int.eq_ofNat_of_zero_le (show 0 ≤ p by omega)
   rw [hm]; exact Sx.wrap_u64 (by omega)
  refine ⟨_, _, at_3 p c0 c1 (decide_eq_false hp) (by rw [w]; omega) (by rw [w]; omega), rfl, fun c hc N μ s => ?_⟩
  have := hc N μ
  have e : (IntKind.u64.wrap p).toNat = Sx.wd p := by rw [w]; unfold Sx.wd; rw [if_neg hp]
  rw [e] at this
  exact this
theorem at32_ok : ∀ args v g g', atS args g = .done v g' → Sx.CallIs Try.prog 32 args v g g' := by
 intro args v g g' h
 unfold atS at h
 split at h
 ·rename_i s p
  obtain ⟨_, g1, a1, h1⟩ := Sx.done_of h
  obtain ⟨rfl, rfl⟩ := Sx.ret_done h1
  refine Sx.scalK sound0 (Sx.ck_done a1) fun hp μ cargs ha => ?_
  obtain rfl := one_int ha
  obtain ⟨path, lv, h1, h2, h3⟩ := at_road p hp.1 hp.2
  exact ⟨[.int true .i64 p], path, lv, int1, h1, h2, fun c hc => h3 c hc _ _ _⟩
 ·exact (Sx.no_done h).elim
/-- the document's float at a place -/
noncomputable def ratS : List Sx.AV → Sx.M Sx.AV
 | [.int s .i64 p] => (Sx.M.ck s (-9218868437227405312 ≤ p ∧ p ≤ 9218868437227405312)).andThen fun _ => Sx.M.ret (.flt s (Sx.cn (Sx.wd p)))
 | _ => Sx.M.no
theorem ratS_tch : ∀ args, Sx.Tch (ratS args) := by
 intro args; unfold ratS; split
 ·exact (Sx.Tch.ck _ _).andThen fun _ => Sx.Tch.ret _
 ·exact Sx.Tch.no
theorem rat_road (p : Int) (h : -9218868437227405312 ≤ p) (h2 : p ≤ 9218868437227405312) : ∃ path lv, Sx.PureP lv (call0 67 [.int true .i64 p] (Sx.G.on path)) ∧ lv.low 0 = true ∧ ∀ c, (∀ N μ, Sx.Rep N μ lv c) → ∀ N μ s, Sx.Rep N μ (.flt s (Sx.cn (Sx.wd p))) c := by
 by_cases hp : p < 0
 ·have w : IntKind.u64.wrap (0 - p) = 0 - p := by
   obtain ⟨m, hm⟩ := Int.eq_ofNat_of_zero_le (show 0 ≤ 0 - p by omega)
   rw [hm]; exact Sx.wrap_u64 (by omega)
  refine ⟨_, _, rat_0 p (decide_eq_true hp) (by omega) (by omega) (by rw [w]; omega) (by rw [w]; omega), rfl, fun c hc N μ s => ?_⟩
  have := hc N μ
  have e : Sx.fneg (Sx.cn (IntKind.u64.wrap (0 - p)).toNat) = Sx.cn (Sx.wd p) := by
   rw [w]
   have hlt : (0 - p).toNat < 9223372036854775808 := by omega
   have nn : Sx.isnan (0 - p).toNat = false := by unfold Sx.isnan; exact decide_eq_false (by omega)
   rw [Sx.cn_of_not nn]
   unfold Sx.fneg
   congr 1
   have x := Nat.two_pow_add_eq_or_of_lt (i := 63) (b := (0 - p).toNat) (by omega) 1
   rw [Sx.neg_word hlt]
   unfold Sx.wd; rw [if_pos hp]; congr 2; omega
  rw [e] at this
  simpa only [Sx.Rep] using this
 ·have w : IntKind.u64.wrap p = p := by
   obtain ⟨m, hm⟩ := Int.eq_ofNat_of_zero_le (show 0 ≤ p by omega)
   rw [hm]; exact Sx.wrap_u64 (by omega)
  refine ⟨_, _, rat_1 p (decide_eq_false hp) (by rw [w]; omega) (by rw [w]; omega), rfl, fun c hc N μ s => ?_⟩
  have := hc N μ
  have e : (IntKind.u64.wrap p).toNat = Sx.wd p := by rw [w]; unfold Sx.wd; rw [if_neg hp]
  rw [e] at this
  simp only [Sx.Rep] at this ⊢
  exact ⟨_, this.1, rfl, this.2⟩
theorem rat67_ok : ∀ args v g g', ratS args g = .done v g' → Sx.CallIs Try.prog 67 args v g g' := by
 intro args v g g' h
 unfold ratS at h
 split at h
 ·rename_i s p
  obtain ⟨_, g1, a1, h1⟩ := Sx.done_of h
  obtain ⟨rfl, rfl⟩ := Sx.ret_done h1
  refine Sx.scalK sound0 (Sx.ck_done a1) fun hp μ cargs ha => ?_
  obtain rfl := one_int ha
  obtain ⟨path, lv, h1, h2, h3⟩ := rat_road p hp.1 hp.2
  exact ⟨[.int true .i64 p], path, lv, int1, h1, h2, fun c hc => h3 c hc _ _ _⟩
 ·exact (Sx.no_done h).elim
/-- SameReal -/
noncomputable def sameS : List Sx.AV → Sx.M Sx.AV := fun l =>
 match l.map Sx.AV.fl1 with
 | [.flt s x, .flt s' y] => Sx.M.ret (Sx.cmpB (s || s') (Nat.beq x y))
 | _ => Sx.M.no
theorem sameS_tch : ∀ args, Sx.Tch (sameS args) := by
 intro args; unfold sameS; split
 ·exact Sx.Tch.ret _
 ·exact Sx.Tch.no
theorem same_road (n m : Nat) (hn : n < 18446744073709551616) (hm : m < 18446744073709551616) : ∃ path lv, Sx.PureP lv (call0 13 [.raw true n, .raw true m] (Sx.G.on path)) ∧ lv.low 0 = true ∧ ∀ c, (∀ N μ, Sx.Rep N μ lv c) → c = .bool (Nat.beq (Sx.cn n) (Sx.cn m)) := by
 have f1 := Sx.feq_self hn
 have f2 := Sx.feq_self hm
 by_cases h : n = m
 ·refine ⟨_, _, same_0 n m (decide_eq_true (by rw [h])), rfl, fun c hc => ?_⟩
  have := hc 0 Sx.MM.none
  simp only [Sx.Rep] at this
  rw [this, h, Nat.beq_refl]
 ·have c0 : decide ((n : Int) = (m : Int)) = false := decide_eq_false (by omega)
  cases h1 : Sx.isnan n with
  | true =>
   refine ⟨_, _, same_1 n m c0 (by rw [f1, h1]; rfl), rfl, fun c hc => ?_⟩
   have := hc 0 Sx.MM.none
   simp only [Sx.Rep] at this
   rw [this, f2, Sx.cn_of_nan h1]
   cases h2 : Sx.isnan m with
   | true => rw [Sx.cn_of_nan h2, Nat.beq_refl]; rfl
   | false =>
    rw [Sx.cn_of_not h2]
    have : Nat.beq Sx.qn m = false := by
     cases hb : Nat.beq Sx.qn m with
     | false => rfl
     | true => rw [← Nat.eq_of_beq_eq_true hb, Sx.isnan_qn] at h2; cases h2
    rw [this]; rfl
  | false =>
   refine ⟨_, _, same_2 n m c0 (by rw [f1, h1]; rfl), rfl, fun c hc => ?_⟩
   have := hc 0 Sx.MM.none
   simp only [Sx.Rep] at this
   rw [this, Sx.cn_of_not h1]
   have : Nat.beq n (Sx.cn m) = false := by
    cases hb : Nat.beq n (Sx.cn m) with
    | false => rfl
    | true =>
     have e := Nat.eq_of_beq_eq_true hb
     cases h2 : Sx.isnan m with
     | true => rw [Sx.cn_of_nan h2] at e; rw [e, Sx.isnan_qn] at h1; cases h1
     | false => rw [Sx.cn_of_not h2] at e; exact absurd e h
   rw [this]
theorem two_flt {N : Nat} {μ : Sx.MM} {s s' : Bool} {x y : Nat} {cs : List Value} (h : Sx.Reps N μ [.flt s x, .flt s' y] cs) : ∃ a b, cs = [.float .f64 a, .float .f64 b] ∧ Sx.cn a = x ∧ a < 18446744073709551616 ∧ Sx.cn b = y ∧ b < 18446744073709551616 := by
 simp only [Sx.Reps, Sx.Rep] at h
 obtain ⟨c, r, rfl, ⟨a, rfl, h1, h2⟩, d, r', rfl, ⟨b, rfl, h3, h4⟩, rfl⟩ := h
 exact ⟨a, b, rfl, h1, h2, h3, h4⟩
theorem same13_ok : ∀ args v g g', sameS args g = .done v g' → Sx.CallIs Try.prog 13 args v g g' := by
 intro args v g g' h
 unfold sameS at h
 generalize he : args.map Sx.AV.fl1 = l at h
 split at h
 ·rename_i s x s' y
  obtain ⟨rfl, rfl⟩ := Sx.ret_done h
  refine Sx.scal sound0 fun μ cargs ha => ?_
  have ha := ha.fl1
  rw [he] at ha
  obtain ⟨a, b, hc, rfl, h2, rfl, h4⟩ := two_flt ha
  obtain ⟨path, lv, r1, r2, r3⟩ := same_road a b h2 h4
  refine ⟨[.raw true a, .raw true b], path, lv, ?_, r1, r2, fun c hc => Sx.Rep_cmpB.2 (r3 c hc)⟩
  rw [hc]
  simp only [Sx.Reps, Sx.Rep]
  exact ⟨_, _, rfl, ⟨rfl, h2⟩, _, _, rfl, ⟨rfl, h4⟩, rfl⟩
 ·exact (Sx.no_done h).elim
noncomputable def gamB : Sx.Known := Sx.kc 11 Sx.ofBits (Sx.kc 48 Sx.toBits (Sx.kc 43 finS (Sx.kc 46 finS (Sx.kc 24 placeS (Sx.kc 66 rplaceS (Sx.kc 32 atS (Sx.kc 67 ratS (Sx.kc 13 sameS (Sx.kn)))))))))
theorem gamB_ok : Sx.KnownOk Try.prog gamB := Sx.kc_ok ((Sx.ofBits_is Try.prog).callIs Try.func11 (by kernel_rfl) (by kernel_rfl) (by kernel_rfl) (by kernel_rfl)) (Sx.kc_ok ((Sx.toBits_is Try.prog).callIs Try.func48 (by kernel_rfl) (by kernel_rfl) (by kernel_rfl) (by kernel_rfl)) (Sx.kc_ok fin43_ok (Sx.kc_ok fin46_ok (Sx.kc_ok place24_ok (Sx.kc_ok rplace66_ok (Sx.kc_ok at32_ok (Sx.kc_ok rat67_ok (Sx.kc_ok same13_ok (Sx.kn_ok)))))))))
theorem gamB_tch : Sx.KnownT gamB := Sx.kc_tch Sx.Tch.ofBits (Sx.kc_tch Sx.Tch.toBits (Sx.kc_tch finS_tch (Sx.kc_tch finS_tch (Sx.kc_tch placeS_tch (Sx.kc_tch rplaceS_tch (Sx.kc_tch atS_tch (Sx.kc_tch ratS_tch (Sx.kc_tch sameS_tch (Sx.kn_tch)))))))))
noncomputable def callB : Sx.Calls' := Sx.runN Try.prog gamB (Sx.regionC Try.prog) 1000 50
theorem callB_ok : Sx.CallOk Try.prog callB := Sx.engineC gamB_ok gamB_tch (by kernel_rfl) (by kernel_rfl) 1000 50
theorem callB_tch : Sx.CallT callB := Sx.runA_tch gamB_tch (fun _ _ _ h => by cases h) (fun call hc n l fr => Sx.regionC_tch hc n l fr) 50
theorem mid_r0 (x y : Nat) (c0 : (!Sx.finD x) = false) (c1 : (!Sx.finD y) = false) (c2 : Sx.isnan x = false) (c3 : Sx.isnan y = false) (c4 : (0 : Int) ≤ (1 : Int)) (c5 : (-9223372036854775808 : Int) ≤ Sx.bitsV Go.BinOp.and IntKind.i64 (Sx.rk x) (Sx.rk y) + Int.fdiv (Sx.bitsV Go.BinOp.xor IntKind.i64 (Sx.rk x) (Sx.rk y)) (2 : Int)) (c6 : Sx.bitsV Go.BinOp.and IntKind.i64 (Sx.rk x) (Sx.rk y) + Int.fdiv (Sx.bitsV Go.BinOp.xor IntKind.i64 (Sx.rk x) (Sx.rk y)) (2 : Int) ≤ (9223372036854775807 : Int)) (c7 : (-9218868437227405312 : Int) ≤ Sx.bitsV Go.BinOp.and IntKind.i64 (Sx.rk x) (Sx.rk y) + Int.fdiv (Sx.bitsV Go.BinOp.xor IntKind.i64 (Sx.rk x) (Sx.rk y)) (2 : Int)) (c8 : Sx.bitsV Go.BinOp.and IntKind.i64 (Sx.rk x) (Sx.rk y) + Int.fdiv (Sx.bitsV Go.BinOp.xor IntKind.i64 (Sx.rk x) (Sx.rk y)) (2 : Int) ≤ (9218868437227405312 : Int)) : Sx.PureP (Sx.AV.tup [Sx.AV.raw true (Sx.wd (Sx.bitsV Go.BinOp.and IntKind.i64 (Sx.rk x) (Sx.rk y) + Int.fdiv (Sx.bitsV Go.BinOp.xor IntKind.i64 (Sx.rk x) (Sx.rk y)) (2 : Int))), Sx.AV.int false .i64 0]) (callB 10 [.flt true x, .flt true y] (Sx.G.on [false, false])) := Sx.eqq (q := (((((((True ∧ ((!Sx.finD x) = false)) ∧ ((!Sx.finD y) = false)) ∧ (Sx.isnan x = false)) ∧ (Sx.isnan y = false)) ∧ ((0 : Int) ≤ (1 : Int))) ∧ (((-9223372036854775808 : Int) ≤ Sx.bitsV Go.BinOp.and IntKind.i64 (Sx.rk x) (Sx.rk y) + Int.fdiv (Sx.bitsV Go.BinOp.xor IntKind.i64 (Sx.rk x) (Sx.rk y)) (2 : Int)) ∧ (Sx.bitsV Go.BinOp.and IntKind.i64 (Sx.rk x) (Sx.rk y) + Int.fdiv (Sx.bitsV Go.BinOp.xor IntKind.i64 (Sx.rk x) (Sx.rk y)) (2 : Int) ≤ (9223372036854775807 : Int)))) ∧ (((-9218868437227405312 : Int) ≤ Sx.bitsV Go.BinOp.and IntKind.i64 (Sx.rk x) (Sx.rk y) + Int.fdiv (Sx.bitsV Go.BinOp.xor IntKind.i64 (Sx.rk x) (Sx.rk y)) (2 : Int)) ∧ (Sx.bitsV Go.BinOp.and IntKind.i64 (Sx.rk x) (Sx.rk y) + Int.fdiv (Sx.bitsV Go.BinOp.xor IntKind.i64 (Sx.rk x) (Sx.rk y)) (2 : Int) ≤ (9218868437227405312 : Int))))) (by kernel_rfl) ⟨⟨⟨⟨⟨⟨⟨trivial, c0⟩, c1⟩, c2⟩, c3⟩, c4⟩, ⟨c5, c6⟩⟩, ⟨c7, c8⟩⟩
theorem apt_r0 (x y : Nat) (c0 : Sx.isnan y = false) (c1 : Sx.isnan x = false) : Sx.PureP (Sx.AV.int true .u64 (IntKind.wrap IntKind.u64 (IntKind.wrap IntKind.u64 (Sx.rk y) - IntKind.wrap IntKind.u64 (Sx.rk x)))) (callB 50 [.flt true x, .flt true y] (Sx.G.on [])) := Sx.eqq (q := ((True ∧ (Sx.isnan y = false)) ∧ (Sx.isnan x = false))) (by kernel_rfl) ⟨⟨trivial, c0⟩, c1⟩
theorem rmid_r0 (x y : Nat) (c0 : Sx.isnan x = false) (c1 : Sx.isnan y = false) (c2 : (0 : Int) ≤ (1 : Int)) (c3 : (-9223372036854775808 : Int) ≤ Sx.bitsV Go.BinOp.and IntKind.i64 (Sx.rk x) (Sx.rk y) + Int.fdiv (Sx.bitsV Go.BinOp.xor IntKind.i64 (Sx.rk x) (Sx.rk y)) (2 : Int)) (c4 : Sx.bitsV Go.BinOp.and IntKind.i64 (Sx.rk x) (Sx.rk y) + Int.fdiv (Sx.bitsV Go.BinOp.xor IntKind.i64 (Sx.rk x) (Sx.rk y)) (2 : Int) ≤ (9223372036854775807 : Int)) (c5 : (-9218868437227405312 : Int) ≤ Sx.bitsV Go.BinOp.and IntKind.i64 (Sx.rk x) (Sx.rk y) + Int.fdiv (Sx.bitsV Go.BinOp.xor IntKind.i64 (Sx.rk x) (Sx.rk y)) (2 : Int)) (c6 : Sx.bitsV Go.BinOp.and IntKind.i64 (Sx.rk x) (Sx.rk y) + Int.fdiv (Sx.bitsV Go.BinOp.xor IntKind.i64 (Sx.rk x) (Sx.rk y)) (2 : Int) ≤ (9218868437227405312 : Int)) : Sx.PureP (Sx.AV.flt true (Sx.cn (Sx.wd (Sx.bitsV Go.BinOp.and IntKind.i64 (Sx.rk x) (Sx.rk y) + Int.fdiv (Sx.bitsV Go.BinOp.xor IntKind.i64 (Sx.rk x) (Sx.rk y)) (2 : Int))))) (callB 47 [.flt true x, .flt true y] (Sx.G.on [])) := Sx.eqq (q := (((((True ∧ (Sx.isnan x = false)) ∧ (Sx.isnan y = false)) ∧ ((0 : Int) ≤ (1 : Int))) ∧ (((-9223372036854775808 : Int) ≤ Sx.bitsV Go.BinOp.and IntKind.i64 (Sx.rk x) (Sx.rk y) + Int.fdiv (Sx.bitsV Go.BinOp.xor IntKind.i64 (Sx.rk x) (Sx.rk y)) (2 : Int)) ∧ (Sx.bitsV Go.BinOp.and IntKind.i64 (Sx.rk x) (Sx.rk y) + Int.fdiv (Sx.bitsV Go.BinOp.xor IntKind.i64 (Sx.rk x) (Sx.rk y)) (2 : Int) ≤ (9223372036854775807 : Int)))) ∧ (((-9218868437227405312 : Int) ≤ Sx.bitsV Go.BinOp.and IntKind.i64 (Sx.rk x) (Sx.rk y) + Int.fdiv (Sx.bitsV Go.BinOp.xor IntKind.i64 (Sx.rk x) (Sx.rk y)) (2 : Int)) ∧ (Sx.bitsV Go.BinOp.and IntKind.i64 (Sx.rk x) (Sx.rk y) + Int.fdiv (Sx.bitsV Go.BinOp.xor IntKind.i64 (Sx.rk x) (Sx.rk y)) (2 : Int) ≤ (9218868437227405312 : Int))))) (by kernel_rfl) ⟨⟨⟨⟨⟨trivial, c0⟩, c1⟩, c2⟩, ⟨c3, c4⟩⟩, ⟨c5, c6⟩⟩
theorem rapt_r0 (x y : Nat) (n : Int) (c0 : Sx.isnan x = false) (c1 : Sx.isnan y = false) (c2 : decide (Sx.rk x < Sx.rk y) = true) : Sx.PureP (Sx.AV.sbool (decide (IntKind.wrap IntKind.u64 n < IntKind.wrap IntKind.u64 (IntKind.wrap IntKind.u64 (Sx.rk y) - IntKind.wrap IntKind.u64 (Sx.rk x))))) (callB 68 [.flt true x, .flt true y, .int true .i64 n] (Sx.G.on [true])) := Sx.eqq (q := (((True ∧ (Sx.isnan x = false)) ∧ (Sx.isnan y = false)) ∧ (decide (Sx.rk x < Sx.rk y) = true))) (by kernel_rfl) ⟨⟨⟨trivial, c0⟩, c1⟩, c2⟩
theorem rapt_r1 (x y : Nat) (n : Int) (c0 : Sx.isnan x = false) (c1 : Sx.isnan y = false) (c2 : decide (Sx.rk x < Sx.rk y) = false) : Sx.PureP (Sx.AV.bool false) (callB 68 [.flt true x, .flt true y, .int true .i64 n] (Sx.G.on [false])) := Sx.eqq (q := (((True ∧ (Sx.isnan x = false)) ∧ (Sx.isnan y = false)) ∧ (decide (Sx.rk x < Sx.rk y) = false))) (by kernel_rfl) ⟨⟨⟨trivial, c0⟩, c1⟩, c2⟩
def FX (x : Nat) : Prop := x < 18446744073709551616 ∧ Sx.finD x = true
/-- the float in the middle -/
def MID (x y : Nat) : Nat := Sx.wd ((Sx.rk x + Sx.rk y) / 2)
theorem FX.nn {x : Nat} (h : FX x) : Sx.isnan x = false := Sx.finD_notnan h.2
theorem FX.cn {x : Nat} (h : FX x) : Sx.cn x = x := Sx.cn_of_not h.nn
theorem FX.lo {x : Nat} (h : FX x) : -9218868437227405311 ≤ Sx.rk x ∧ Sx.rk x ≤ 9218868437227405311 := Sx.rk_fin h.1 h.2
theorem not_t {b : Bool} (h : b = true) : (!b) = false := by rw [h]; rfl
theorem mid_is {x y : Nat} (hx : FX x) (hy : FX y) : Sx.bitsV .and .i64 (Sx.rk x) (Sx.rk y) + Int.fdiv (Sx.bitsV .xor .i64 (Sx.rk x) (Sx.rk y)) 2 = (Sx.rk x + Sx.rk y) / 2 := by
 have a := hx.lo
 have b := hy.lo
 have md := Sx.middle_is (p := Sx.rk x) (q := Sx.rk y) (by omega) (by omega) (by omega) (by omega)
 have fd : (Sx.rk x + Sx.rk y).fdiv 2 = (Sx.rk x + Sx.rk y) / 2 := Int.fdiv_eq_ediv_of_nonneg _ (by omega)
 rw [fd] at md
 exact md
theorem MID_rk {x y : Nat} (hx : FX x) (hy : FX y) : Sx.rk (MID x y) = (Sx.rk x + Sx.rk y) / 2 := by
 have a := hx.lo
 have b := hy.lo
 exact (Sx.rk_wd (by omega) (by omega)).1
theorem MID_FX {x y : Nat} (hx : FX x) (hy : FX y) : FX (MID x y) := by
 have a := hx.lo
 have b := hy.lo
 have q := Sx.rk_wd (p := (Sx.rk x + Sx.rk y) / 2) (by omega) (by omega)
 have q1 : Sx.rk (MID x y) = (Sx.rk x + Sx.rk y) / 2 := q.1
 have q2 : MID x y < 18446744073709551616 := q.2.1
 refine ⟨q2, ?_⟩
 unfold Sx.finD
 unfold Sx.rk at q1
 refine decide_eq_true ?_
 unfold Sx.rk at a b
 split at q1 <;> omega
theorem wrap_sub {p q : Int} (h : p ≤ q) (h1 : -9223372036854775808 ≤ p) (h2 : q < 9223372036854775808) : IntKind.wrap .u64 (IntKind.wrap .u64 q - IntKind.wrap .u64 p) = q - p := by
 have e : ∀ z : Int, IntKind.wrap .u64 z = z % 18446744073709551616 := fun z => rfl
 rw [e, e, e]; omega
theorem wrap_id {p : Int} (h1 : 0 ≤ p) (h2 : p < 18446744073709551616) : IntKind.wrap .u64 p = p := by
 have e : ∀ z : Int, IntKind.wrap .u64 z = z % 18446744073709551616 := fun z => rfl
 rw [e]; omega
noncomputable def midTS : List Sx.AV → Sx.M Sx.AV
 | [.flt s0 x, .flt s1 y] => (Sx.M.req (FX x ∧ FX y)).andThen fun _ => Sx.M.ret (.tup [.flt true (MID x y), .int true .i64 0])
 | _ => Sx.M.no
theorem midTS_tch : ∀ args, Sx.Tch (midTS args) := by
 intro args; unfold midTS; split
 ·exact (Sx.Tch.req _).andThen fun _ => Sx.Tch.ret _
 ·exact Sx.Tch.no
theorem midTS_ok : ∀ args v g g', midTS args g = .done v g' → Sx.CallIs Try.prog 10 args v g g' := by
 intro args v g g' h
 unfold midTS at h
 split at h
 ·rename_i s0 x s1 y
  obtain ⟨_, g1, a1, h1⟩ := Sx.done_of h
  obtain ⟨rfl, rfl⟩ := Sx.ret_done h1
  refine Sx.scalK callB_ok (Sx.req_done a1) fun hp μ cargs ha => ?_
  have lx := hp.1.lo
  have ly := hp.2.lo
  have em := mid_is hp.1 hp.2
  exact ⟨_, _, _, (by simpa only [Sx.Reps, Sx.Rep] using ha), mid_r0 x y (not_t hp.1.2) (not_t hp.2.2) hp.1.nn hp.2.nn (by decide) (by rw [em]; omega) (by rw [em]; omega) (by rw [em]; omega) (by rw [em]; omega), rfl, fun cv hc => (Sx.AV.ge.tup2 (Sx.AV.ge.rawn _ _ (by rw [em]; exact (MID_FX hp.1 hp.2).cn)) (Sx.AV.ge.int _ _ _ _)) _ _ _ (hc g.nx μ)⟩
 ·exact (Sx.no_done h).elim
noncomputable def rmidTS : List Sx.AV → Sx.M Sx.AV
 | [.flt s0 x, .flt s1 y] => (Sx.M.req (FX x ∧ FX y)).andThen fun _ => Sx.M.ret (.flt true (MID x y))
 | _ => Sx.M.no
theorem rmidTS_tch : ∀ args, Sx.Tch (rmidTS args) := by
 intro args; unfold rmidTS; split
 ·exact (Sx.Tch.req _).andThen fun _ => Sx.Tch.ret _
 ·exact Sx.Tch.no
theorem rmidTS_ok : ∀ args v g g', rmidTS args g = .done v g' → Sx.CallIs Try.prog 47 args v g g' := by
 intro args v g g' h
 unfold rmidTS at h
 split at h
 ·rename_i s0 x s1 y
  obtain ⟨_, g1, a1, h1⟩ := Sx.done_of h
  obtain ⟨rfl, rfl⟩ := Sx.ret_done h1
  refine Sx.scalK callB_ok (Sx.req_done a1) fun hp μ cargs ha => ?_
  have lx := hp.1.lo
  have ly := hp.2.lo
  have em := mid_is hp.1 hp.2
  exact ⟨_, _, _, (by simpa only [Sx.Reps, Sx.Rep] using ha), rmid_r0 x y hp.1.nn hp.2.nn (by decide) (by rw [em]; omega) (by rw [em]; omega) (by rw [em]; omega) (by rw [em]; omega), rfl, fun cv hc => (Sx.AV.ge.flt' _ _ (by rw [em]; exact (MID_FX hp.1 hp.2).cn)) _ _ _ (hc g.nx μ)⟩
 ·exact (Sx.no_done h).elim
noncomputable def aptTS : List Sx.AV → Sx.M Sx.AV
 | [.flt s0 x, .flt s1 y] => (Sx.M.req (FX x ∧ FX y ∧ Sx.rk x ≤ Sx.rk y)).andThen fun _ => Sx.M.ret (.int true .u64 (Sx.rk y - Sx.rk x))
 | _ => Sx.M.no
theorem aptTS_tch : ∀ args, Sx.Tch (aptTS args) := by
 intro args; unfold aptTS; split
 ·exact (Sx.Tch.req _).andThen fun _ => Sx.Tch.ret _
 ·exact Sx.Tch.no
theorem aptTS_ok : ∀ args v g g', aptTS args g = .done v g' → Sx.CallIs Try.prog 50 args v g g' := by
 intro args v g g' h
 unfold aptTS at h
 split at h
 ·rename_i s0 x s1 y
  obtain ⟨_, g1, a1, h1⟩ := Sx.done_of h
  obtain ⟨rfl, rfl⟩ := Sx.ret_done h1
  refine Sx.scalK callB_ok (Sx.req_done a1) fun hp μ cargs ha => ?_
  have lx := hp.1.lo
  have ly := hp.2.1.lo
  exact ⟨_, _, _, (by simpa only [Sx.Reps, Sx.Rep] using ha), apt_r0 x y hp.2.1.nn hp.1.nn, rfl, fun cv hc => (Sx.AV.ge.int' _ _ _ (wrap_sub hp.2.2 (by omega) (by omega))) _ _ _ (hc g.nx μ)⟩
 ·exact (Sx.no_done h).elim
noncomputable def raptT (x y : Nat) (n : Int) : Bool := decide (n < Sx.rk y - Sx.rk x)
noncomputable def raptTS : List Sx.AV → Sx.M Sx.AV
 | [.flt s0 x, .flt s1 y, .int s2 .i64 n] => (Sx.M.req (FX x ∧ FX y ∧ 0 ≤ n ∧ n < 9223372036854775808)).andThen fun _ => Sx.M.ret (.sbool (raptT x y n))
 | _ => Sx.M.no
theorem raptTS_tch : ∀ args, Sx.Tch (raptTS args) := by
 intro args; unfold raptTS; split
 ·exact (Sx.Tch.req _).andThen fun _ => Sx.Tch.ret _
 ·exact Sx.Tch.no
theorem raptTS_ok : ∀ args v g g', raptTS args g = .done v g' → Sx.CallIs Try.prog 68 args v g g' := by
 intro args v g g' h
 unfold raptTS at h
 split at h
 ·rename_i s0 x s1 y s2 n
  obtain ⟨_, g1, a1, h1⟩ := Sx.done_of h
  obtain ⟨rfl, rfl⟩ := Sx.ret_done h1
  refine Sx.scalK callB_ok (Sx.req_done a1) fun hp μ cargs ha => ?_
  have lx := hp.1.lo
  have ly := hp.2.1.lo
  by_cases c : Sx.rk x < Sx.rk y
  ·refine ⟨_, _, _, (by simpa only [Sx.Reps, Sx.Rep] using ha), rapt_r0 x y n hp.1.nn hp.2.1.nn (decide_eq_true c), rfl, fun cv hc => (Sx.AV.ge.sbool' ?_) _ _ _ (hc g.nx μ)⟩
   rw [wrap_sub (by omega) (by omega) (by omega), wrap_id hp.2.2.1 (by omega)]; rfl
  ·refine ⟨_, _, _, (by simpa only [Sx.Reps, Sx.Rep] using ha), rapt_r1 x y n hp.1.nn hp.2.1.nn (decide_eq_false c), rfl, fun cv hc => (Sx.AV.ge.bool' ?_) _ _ _ (hc g.nx μ)⟩
   unfold raptT; rw [decide_eq_false (by omega)]
 ·exact (Sx.no_done h).elim
theorem unl_r0 (x y : Nat) (c0 : Sx.flt x (0 : Nat) = true) (c1 : Sx.fgt y (0 : Nat) = true) : Sx.PureP (Sx.AV.bool true) (callB 57 [.flt true x, .flt true y] (Sx.G.on [true, true])) := Sx.eqq (q := ((True ∧ (Sx.flt x (0 : Nat) = true)) ∧ (Sx.fgt y (0 : Nat) = true))) (by kernel_rfl) ⟨⟨trivial, c0⟩, c1⟩
theorem unl_r1 (x y : Nat) (c0 : Sx.flt x (0 : Nat) = true) (c1 : Sx.fgt y (0 : Nat) = false) (c2 : Sx.fgt x (0 : Nat) = true) : Sx.PureP (Sx.AV.sbool (Sx.flt y (0 : Nat))) (callB 57 [.flt true x, .flt true y] (Sx.G.on [true, false, true])) := Sx.eqq (q := (((True ∧ (Sx.flt x (0 : Nat) = true)) ∧ (Sx.fgt y (0 : Nat) = false)) ∧ (Sx.fgt x (0 : Nat) = true))) (by kernel_rfl) ⟨⟨⟨trivial, c0⟩, c1⟩, c2⟩
theorem unl_r2 (x y : Nat) (c0 : Sx.flt x (0 : Nat) = true) (c1 : Sx.fgt y (0 : Nat) = false) (c2 : Sx.fgt x (0 : Nat) = false) : Sx.PureP (Sx.AV.bool false) (callB 57 [.flt true x, .flt true y] (Sx.G.on [true, false, false])) := Sx.eqq (q := (((True ∧ (Sx.flt x (0 : Nat) = true)) ∧ (Sx.fgt y (0 : Nat) = false)) ∧ (Sx.fgt x (0 : Nat) = false))) (by kernel_rfl) ⟨⟨⟨trivial, c0⟩, c1⟩, c2⟩
theorem unl_r3 (x y : Nat) (c0 : Sx.flt x (0 : Nat) = false) (c1 : Sx.fgt x (0 : Nat) = true) : Sx.PureP (Sx.AV.sbool (Sx.flt y (0 : Nat))) (callB 57 [.flt true x, .flt true y] (Sx.G.on [false, true])) := Sx.eqq (q := ((True ∧ (Sx.flt x (0 : Nat) = false)) ∧ (Sx.fgt x (0 : Nat) = true))) (by kernel_rfl) ⟨⟨trivial, c0⟩, c1⟩
theorem unl_r4 (x y : Nat) (c0 : Sx.flt x (0 : Nat) = false) (c1 : Sx.fgt x (0 : Nat) = false) : Sx.PureP (Sx.AV.bool false) (callB 57 [.flt true x, .flt true y] (Sx.G.on [false, false])) := Sx.eqq (q := ((True ∧ (Sx.flt x (0 : Nat) = false)) ∧ (Sx.fgt x (0 : Nat) = false))) (by kernel_rfl) ⟨⟨trivial, c0⟩, c1⟩
noncomputable def unl_0 (x y : Nat) : Bool := (bif Sx.flt x (0 : Nat) then (bif Sx.fgt y (0 : Nat) then (true) else (bif Sx.fgt x (0 : Nat) then (Sx.flt y (0 : Nat)) else (false))) else (bif Sx.fgt x (0 : Nat) then (Sx.flt y (0 : Nat)) else (false)))
noncomputable def unlS : List Sx.AV → Sx.M Sx.AV
 | [.flt s0 x, .flt s1 y] => Sx.M.ret (Sx.cmpB (Bool.or s0 s1) (unl_0 x y))
 | args => callB 57 args
theorem unlS_ok : ∀ args v g g', unlS args g = .done v g' → Sx.CallIs Try.prog 57 args v g g' := by
 intro args v g g' h
 unfold unlS at h
 split at h
 ·rename_i s0 x s1 y
  obtain ⟨rfl, rfl⟩ := Sx.ret_done h
  refine Sx.scal callB_ok fun μ cargs ha => ?_
  have ha' : Sx.Reps 0 Sx.MM.none [.flt true x, .flt true y] cargs.toList := by simpa only [Sx.Reps, Sx.Rep] using ha
  cases t0 : Sx.flt x (0 : Nat) with
  | true =>
   cases t1 : Sx.fgt y (0 : Nat) with
   | true =>
    exact ⟨_, _, _, ha', unl_r0 x y t0 t1, rfl, fun cv hc => by have := hc g.nx μ; have e0 : unl_0 x y = (true) := (Sx.ct t0).trans ((Sx.ct t1).trans (rfl)); rw [e0]; simpa only [Sx.Rep, Sx.Reps, Sx.Rep_cmpB] using this⟩
   | false =>
    cases t2 : Sx.fgt x (0 : Nat) with
    | true =>
     exact ⟨_, _, _, ha', unl_r1 x y t0 t1 t2, rfl, fun cv hc => by have := hc g.nx μ; have e0 : unl_0 x y = (Sx.flt y (0 : Nat)) := (Sx.ct t0).trans ((Sx.cf t1).trans ((Sx.ct t2).trans (rfl))); rw [e0]; simpa only [Sx.Rep, Sx.Reps, Sx.Rep_cmpB] using this⟩
    | false =>
     exact ⟨_, _, _, ha', unl_r2 x y t0 t1 t2, rfl, fun cv hc => by have := hc g.nx μ; have e0 : unl_0 x y = (false) := (Sx.ct t0).trans ((Sx.cf t1).trans ((Sx.cf t2).trans (rfl))); rw [e0]; simpa only [Sx.Rep, Sx.Reps, Sx.Rep_cmpB] using this⟩
  | false =>
   cases t1 : Sx.fgt x (0 : Nat) with
   | true =>
    exact ⟨_, _, _, ha', unl_r3 x y t0 t1, rfl, fun cv hc => by have := hc g.nx μ; have e0 : unl_0 x y = (Sx.flt y (0 : Nat)) := (Sx.cf t0).trans ((Sx.ct t1).trans (rfl)); rw [e0]; simpa only [Sx.Rep, Sx.Reps, Sx.Rep_cmpB] using this⟩
   | false =>
    exact ⟨_, _, _, ha', unl_r4 x y t0 t1, rfl, fun cv hc => by have := hc g.nx μ; have e0 : unl_0 x y = (false) := (Sx.cf t0).trans ((Sx.cf t1).trans (rfl)); rw [e0]; simpa only [Sx.Rep, Sx.Reps, Sx.Rep_cmpB] using this⟩
 ·exact callB_ok _ _ _ _ _ h
theorem unlS_tch : ∀ args, Sx.Tch (unlS args) := by
 intro args
 unfold unlS
 split
 ·exact Sx.Tch.ret _
 ·exact callB_tch _ _
theorem pick_r0 (i n : Int) (c0 : n ≠ (0 : Int)) (c1 : decide (Int.tmod i n < (0 : Int)) = true) (c2 : (-9223372036854775808 : Int) ≤ Int.tmod i n + n) (c3 : Int.tmod i n + n ≤ (9223372036854775807 : Int)) : Sx.PureP (Sx.AV.int true .i64 (Int.tmod i n + n)) (callB 30 [.int true .i64 i, .int true .i64 n] (Sx.G.on [true])) := Sx.eqq (q := (((True ∧ (n ≠ (0 : Int))) ∧ (decide (Int.tmod i n < (0 : Int)) = true)) ∧ (((-9223372036854775808 : Int) ≤ Int.tmod i n + n) ∧ (Int.tmod i n + n ≤ (9223372036854775807 : Int))))) (by kernel_rfl) ⟨⟨⟨trivial, c0⟩, c1⟩, ⟨c2, c3⟩⟩
theorem pick_r1 (i n : Int) (c0 : n ≠ (0 : Int)) (c1 : decide (Int.tmod i n < (0 : Int)) = false) : Sx.PureP (Sx.AV.int true .i64 (Int.tmod i n)) (callB 30 [.int true .i64 i, .int true .i64 n] (Sx.G.on [false])) := Sx.eqq (q := ((True ∧ (n ≠ (0 : Int))) ∧ (decide (Int.tmod i n < (0 : Int)) = false))) (by kernel_rfl) ⟨⟨trivial, c0⟩, c1⟩
noncomputable def pick_0 (i n : Int) : Int := (bif decide (Int.tmod i n < (0 : Int)) then (Int.tmod i n + n) else (Int.tmod i n))
noncomputable def pickS : List Sx.AV → Sx.M Sx.AV
 | [.int s0 .i64 i, .int s1 .i64 n] => (Sx.M.req (((decide (Int.tmod i n < (0 : Int))) = true → (n ≠ (0 : Int))) ∧ ((decide (Int.tmod i n < (0 : Int))) = true → ((-9223372036854775808 : Int) ≤ Int.tmod i n + n)) ∧ ((decide (Int.tmod i n < (0 : Int))) = true → (Int.tmod i n + n ≤ (9223372036854775807 : Int))) ∧ ((decide (Int.tmod i n < (0 : Int))) = false → (n ≠ (0 : Int))))).andThen fun _ => Sx.M.ret (Sx.AV.int (Bool.or s0 s1) (IntKind.i64) (pick_0 i n))
 | args => callB 30 args
theorem pickS_ok : ∀ args v g g', pickS args g = .done v g' → Sx.CallIs Try.prog 30 args v g g' := by
 intro args v g g' h
 unfold pickS at h
 split at h
 ·rename_i s0 i s1 n
  obtain ⟨_, g1, a1, h1⟩ := Sx.done_of h
  obtain ⟨rfl, rfl⟩ := Sx.ret_done h1
  refine Sx.scalK callB_ok (Sx.req_done a1) fun hp μ cargs ha => ?_
  have ha' : Sx.Reps 0 Sx.MM.none [.int true .i64 i, .int true .i64 n] cargs.toList := by simpa only [Sx.Reps, Sx.Rep] using ha
  cases t0 : decide (Int.tmod i n < (0 : Int)) with
  | true =>
   exact ⟨_, _, _, ha', pick_r0 i n (hp.1 t0) t0 (hp.2.1 t0) (hp.2.2.1 t0), rfl, fun cv hc => by have := hc g.nx μ; have e0 : pick_0 i n = (Int.tmod i n + n) := (Sx.ct t0).trans (rfl); rw [e0]; simpa only [Sx.Rep, Sx.Reps, Sx.Rep_cmpB] using this⟩
  | false =>
   exact ⟨_, _, _, ha', pick_r1 i n (hp.2.2.2 t0) t0, rfl, fun cv hc => by have := hc g.nx μ; have e0 : pick_0 i n = (Int.tmod i n) := (Sx.cf t0).trans (rfl); rw [e0]; simpa only [Sx.Rep, Sx.Reps, Sx.Rep_cmpB] using this⟩
 ·exact callB_ok _ _ _ _ _ h
theorem pickS_tch : ∀ args, Sx.Tch (pickS args) := by
 intro args
 unfold pickS
 split
 ·exact (Sx.Tch.req _).andThen fun _ => Sx.Tch.ret _
 ·exact callB_tch _ _
noncomputable def gamC : Sx.Known := Sx.kc 11 Sx.ofBits (Sx.kc 48 Sx.toBits (Sx.kc 30 pickS (Sx.kn)))
theorem gamC_ok : Sx.KnownOk Try.prog gamC := Sx.kc_ok ((Sx.ofBits_is Try.prog).callIs Try.func11 (by kernel_rfl) (by kernel_rfl) (by kernel_rfl) (by kernel_rfl)) (Sx.kc_ok ((Sx.toBits_is Try.prog).callIs Try.func48 (by kernel_rfl) (by kernel_rfl) (by kernel_rfl) (by kernel_rfl)) (Sx.kc_ok pickS_ok (Sx.kn_ok)))
theorem gamC_tch : Sx.KnownT gamC := Sx.kc_tch Sx.Tch.ofBits (Sx.kc_tch Sx.Tch.toBits (Sx.kc_tch pickS_tch (Sx.kn_tch)))
noncomputable def callC : Sx.Calls' := Sx.runN Try.prog gamC (Sx.regionC Try.prog) 1000 50
theorem callC_ok : Sx.CallOk Try.prog callC := Sx.engineC gamC_ok gamC_tch (by kernel_rfl) (by kernel_rfl) 1000 50
theorem val_r0 (k c d : Int) (z : Bool) (x : Nat) (c0 : (0 : Int) ≤ c) (c1 : c < (18446744073709551616 : Int)) (c2 : (0 : Int) ≤ d) (c3 : d < (18446744073709551616 : Int)) (c4 : decide (Int.tmod k (8 : Int) < (0 : Int)) = true → (8 : Int) ≠ (0 : Int)) (c5 : decide (Int.tmod k (8 : Int) < (0 : Int)) = true → (-9223372036854775808 : Int) ≤ Int.tmod k (8 : Int) + (8 : Int)) (c6 : decide (Int.tmod k (8 : Int) < (0 : Int)) = true → Int.tmod k (8 : Int) + (8 : Int) ≤ (9223372036854775807 : Int)) (c7 : decide (Int.tmod k (8 : Int) < (0 : Int)) = false → (8 : Int) ≠ (0 : Int)) (c8 : decide (pick_0 k (8 : Int) = (1 : Int)) = true) : Sx.PureP (Sx.AV.flt true (Sx.fmul (Sx.fmul (Sx.fsub x (Sx.cn (Int.toNat c))) (Sx.fsub x (Sx.cn (Int.toNat c)))) (Sx.fsub x (Sx.cn (Int.toNat c))))) (callC 19 [.agg [.int true .i64 k, .int true .u64 c, .int true .u64 d, .sbool z], .flt true x] (Sx.G.on [true])) := Sx.eqq (q := ((((True ∧ (((0 : Int) ≤ c) ∧ (c < (18446744073709551616 : Int)))) ∧ (((0 : Int) ≤ d) ∧ (d < (18446744073709551616 : Int)))) ∧ ((decide (Int.tmod k (8 : Int) < (0 : Int)) = true → (8 : Int) ≠ (0 : Int)) ∧ ((decide (Int.tmod k (8 : Int) < (0 : Int)) = true → (-9223372036854775808 : Int) ≤ Int.tmod k (8 : Int) + (8 : Int)) ∧ ((decide (Int.tmod k (8 : Int) < (0 : Int)) = true → Int.tmod k (8 : Int) + (8 : Int) ≤ (9223372036854775807 : Int)) ∧ (decide (Int.tmod k (8 : Int) < (0 : Int)) = false → (8 : Int) ≠ (0 : Int)))))) ∧ (decide (pick_0 k (8 : Int) = (1 : Int)) = true))) (by kernel_rfl) ⟨⟨⟨⟨trivial, ⟨c0, c1⟩⟩, ⟨c2, c3⟩⟩, ⟨c4, ⟨c5, ⟨c6, c7⟩⟩⟩⟩, c8⟩
theorem val_r1 (k c d : Int) (z : Bool) (x : Nat) (c0 : (0 : Int) ≤ c) (c1 : c < (18446744073709551616 : Int)) (c2 : (0 : Int) ≤ d) (c3 : d < (18446744073709551616 : Int)) (c4 : decide (Int.tmod k (8 : Int) < (0 : Int)) = true → (8 : Int) ≠ (0 : Int)) (c5 : decide (Int.tmod k (8 : Int) < (0 : Int)) = true → (-9223372036854775808 : Int) ≤ Int.tmod k (8 : Int) + (8 : Int)) (c6 : decide (Int.tmod k (8 : Int) < (0 : Int)) = true → Int.tmod k (8 : Int) + (8 : Int) ≤ (9223372036854775807 : Int)) (c7 : decide (Int.tmod k (8 : Int) < (0 : Int)) = false → (8 : Int) ≠ (0 : Int)) (c8 : decide (pick_0 k (8 : Int) = (1 : Int)) = false) (c9 : decide (pick_0 k (8 : Int) = (2 : Int)) = true) (c10 : Sx.flt x (Sx.cn (Int.toNat c)) = true) : Sx.PureP (Sx.AV.flt false (13830554455654793216 : Nat)) (callC 19 [.agg [.int true .i64 k, .int true .u64 c, .int true .u64 d, .sbool z], .flt true x] (Sx.G.on [false, true, true])) := Sx.eqq (q := ((((((True ∧ (((0 : Int) ≤ c) ∧ (c < (18446744073709551616 : Int)))) ∧ (((0 : Int) ≤ d) ∧ (d < (18446744073709551616 : Int)))) ∧ ((decide (Int.tmod k (8 : Int) < (0 : Int)) = true → (8 : Int) ≠ (0 : Int)) ∧ ((decide (Int.tmod k (8 : Int) < (0 : Int)) = true → (-9223372036854775808 : Int) ≤ Int.tmod k (8 : Int) + (8 : Int)) ∧ ((decide (Int.tmod k (8 : Int) < (0 : Int)) = true → Int.tmod k (8 : Int) + (8 : Int) ≤ (9223372036854775807 : Int)) ∧ (decide (Int.tmod k (8 : Int) < (0 : Int)) = false → (8 : Int) ≠ (0 : Int)))))) ∧ (decide (pick_0 k (8 : Int) = (1 : Int)) = false)) ∧ (decide (pick_0 k (8 : Int) = (2 : Int)) = true)) ∧ (Sx.flt x (Sx.cn (Int.toNat c)) = true))) (by kernel_rfl) ⟨⟨⟨⟨⟨⟨trivial, ⟨c0, c1⟩⟩, ⟨c2, c3⟩⟩, ⟨c4, ⟨c5, ⟨c6, c7⟩⟩⟩⟩, c8⟩, c9⟩, c10⟩
theorem val_r2 (k c d : Int) (z : Bool) (x : Nat) (c0 : (0 : Int) ≤ c) (c1 : c < (18446744073709551616 : Int)) (c2 : (0 : Int) ≤ d) (c3 : d < (18446744073709551616 : Int)) (c4 : decide (Int.tmod k (8 : Int) < (0 : Int)) = true → (8 : Int) ≠ (0 : Int)) (c5 : decide (Int.tmod k (8 : Int) < (0 : Int)) = true → (-9223372036854775808 : Int) ≤ Int.tmod k (8 : Int) + (8 : Int)) (c6 : decide (Int.tmod k (8 : Int) < (0 : Int)) = true → Int.tmod k (8 : Int) + (8 : Int) ≤ (9223372036854775807 : Int)) (c7 : decide (Int.tmod k (8 : Int) < (0 : Int)) = false → (8 : Int) ≠ (0 : Int)) (c8 : decide (pick_0 k (8 : Int) = (1 : Int)) = false) (c9 : decide (pick_0 k (8 : Int) = (2 : Int)) = true) (c10 : Sx.flt x (Sx.cn (Int.toNat c)) = false) : Sx.PureP (Sx.AV.flt false (4607182418800017408 : Nat)) (callC 19 [.agg [.int true .i64 k, .int true .u64 c, .int true .u64 d, .sbool z], .flt true x] (Sx.G.on [false, true, false])) := Sx.eqq (q := ((((((True ∧ (((0 : Int) ≤ c) ∧ (c < (18446744073709551616 : Int)))) ∧ (((0 : Int) ≤ d) ∧ (d < (18446744073709551616 : Int)))) ∧ ((decide (Int.tmod k (8 : Int) < (0 : Int)) = true → (8 : Int) ≠ (0 : Int)) ∧ ((decide (Int.tmod k (8 : Int) < (0 : Int)) = true → (-9223372036854775808 : Int) ≤ Int.tmod k (8 : Int) + (8 : Int)) ∧ ((decide (Int.tmod k (8 : Int) < (0 : Int)) = true → Int.tmod k (8 : Int) + (8 : Int) ≤ (9223372036854775807 : Int)) ∧ (decide (Int.tmod k (8 : Int) < (0 : Int)) = false → (8 : Int) ≠ (0 : Int)))))) ∧ (decide (pick_0 k (8 : Int) = (1 : Int)) = false)) ∧ (decide (pick_0 k (8 : Int) = (2 : Int)) = true)) ∧ (Sx.flt x (Sx.cn (Int.toNat c)) = false))) (by kernel_rfl) ⟨⟨⟨⟨⟨⟨trivial, ⟨c0, c1⟩⟩, ⟨c2, c3⟩⟩, ⟨c4, ⟨c5, ⟨c6, c7⟩⟩⟩⟩, c8⟩, c9⟩, c10⟩
theorem val_r3 (k c d : Int) (z : Bool) (x : Nat) (c0 : (0 : Int) ≤ c) (c1 : c < (18446744073709551616 : Int)) (c2 : (0 : Int) ≤ d) (c3 : d < (18446744073709551616 : Int)) (c4 : decide (Int.tmod k (8 : Int) < (0 : Int)) = true → (8 : Int) ≠ (0 : Int)) (c5 : decide (Int.tmod k (8 : Int) < (0 : Int)) = true → (-9223372036854775808 : Int) ≤ Int.tmod k (8 : Int) + (8 : Int)) (c6 : decide (Int.tmod k (8 : Int) < (0 : Int)) = true → Int.tmod k (8 : Int) + (8 : Int) ≤ (9223372036854775807 : Int)) (c7 : decide (Int.tmod k (8 : Int) < (0 : Int)) = false → (8 : Int) ≠ (0 : Int)) (c8 : decide (pick_0 k (8 : Int) = (1 : Int)) = false) (c9 : decide (pick_0 k (8 : Int) = (2 : Int)) = false) (c10 : decide (pick_0 k (8 : Int) = (3 : Int)) = true) (c11 : Sx.fgt x (Sx.cn (Int.toNat d)) = true) : Sx.PureP (Sx.AV.raw false (9221120237041090561 : Nat)) (callC 19 [.agg [.int true .i64 k, .int true .u64 c, .int true .u64 d, .sbool z], .flt true x] (Sx.G.on [false, false, true, true])) := Sx.eqq (q := (((((((True ∧ (((0 : Int) ≤ c) ∧ (c < (18446744073709551616 : Int)))) ∧ (((0 : Int) ≤ d) ∧ (d < (18446744073709551616 : Int)))) ∧ ((decide (Int.tmod k (8 : Int) < (0 : Int)) = true → (8 : Int) ≠ (0 : Int)) ∧ ((decide (Int.tmod k (8 : Int) < (0 : Int)) = true → (-9223372036854775808 : Int) ≤ Int.tmod k (8 : Int) + (8 : Int)) ∧ ((decide (Int.tmod k (8 : Int) < (0 : Int)) = true → Int.tmod k (8 : Int) + (8 : Int) ≤ (9223372036854775807 : Int)) ∧ (decide (Int.tmod k (8 : Int) < (0 : Int)) = false → (8 : Int) ≠ (0 : Int)))))) ∧ (decide (pick_0 k (8 : Int) = (1 : Int)) = false)) ∧ (decide (pick_0 k (8 : Int) = (2 : Int)) = false)) ∧ (decide (pick_0 k (8 : Int) = (3 : Int)) = true)) ∧ (Sx.fgt x (Sx.cn (Int.toNat d)) = true))) (by kernel_rfl) ⟨⟨⟨⟨⟨⟨⟨trivial, ⟨c0, c1⟩⟩, ⟨c2, c3⟩⟩, ⟨c4, ⟨c5, ⟨c6, c7⟩⟩⟩⟩, c8⟩, c9⟩, c10⟩, c11⟩
theorem val_r4 (k c d : Int) (z : Bool) (x : Nat) (c0 : (0 : Int) ≤ c) (c1 : c < (18446744073709551616 : Int)) (c2 : (0 : Int) ≤ d) (c3 : d < (18446744073709551616 : Int)) (c4 : decide (Int.tmod k (8 : Int) < (0 : Int)) = true → (8 : Int) ≠ (0 : Int)) (c5 : decide (Int.tmod k (8 : Int) < (0 : Int)) = true → (-9223372036854775808 : Int) ≤ Int.tmod k (8 : Int) + (8 : Int)) (c6 : decide (Int.tmod k (8 : Int) < (0 : Int)) = true → Int.tmod k (8 : Int) + (8 : Int) ≤ (9223372036854775807 : Int)) (c7 : decide (Int.tmod k (8 : Int) < (0 : Int)) = false → (8 : Int) ≠ (0 : Int)) (c8 : decide (pick_0 k (8 : Int) = (1 : Int)) = false) (c9 : decide (pick_0 k (8 : Int) = (2 : Int)) = false) (c10 : decide (pick_0 k (8 : Int) = (3 : Int)) = true) (c11 : Sx.fgt x (Sx.cn (Int.toNat d)) = false) : Sx.PureP (Sx.AV.flt true (Sx.fsub x (Sx.cn (Int.toNat c)))) (callC 19 [.agg [.int true .i64 k, .int true .u64 c, .int true .u64 d, .sbool z], .flt true x] (Sx.G.on [false, false, true, false])) := Sx.eqq (q := (((((((True ∧ (((0 : Int) ≤ c) ∧ (c < (18446744073709551616 : Int)))) ∧ (((0 : Int) ≤ d) ∧ (d < (18446744073709551616 : Int)))) ∧ ((decide (Int.tmod k (8 : Int) < (0 : Int)) = true → (8 : Int) ≠ (0 : Int)) ∧ ((decide (Int.tmod k (8 : Int) < (0 : Int)) = true → (-9223372036854775808 : Int) ≤ Int.tmod k (8 : Int) + (8 : Int)) ∧ ((decide (Int.tmod k (8 : Int) < (0 : Int)) = true → Int.tmod k (8 : Int) + (8 : Int) ≤ (9223372036854775807 : Int)) ∧ (decide (Int.tmod k (8 : Int) < (0 : Int)) = false → (8 : Int) ≠ (0 : Int)))))) ∧ (decide (pick_0 k (8 : Int) = (1 : Int)) = false)) ∧ (decide (pick_0 k (8 : Int) = (2 : Int)) = false)) ∧ (decide (pick_0 k (8 : Int) = (3 : Int)) = true)) ∧ (Sx.fgt x (Sx.cn (Int.toNat d)) = false))) (by kernel_rfl) ⟨⟨⟨⟨⟨⟨⟨trivial, ⟨c0, c1⟩⟩, ⟨c2, c3⟩⟩, ⟨c4, ⟨c5, ⟨c6, c7⟩⟩⟩⟩, c8⟩, c9⟩, c10⟩, c11⟩
theorem val_r5 (k c d : Int) (z : Bool) (x : Nat) (c0 : (0 : Int) ≤ c) (c1 : c < (18446744073709551616 : Int)) (c2 : (0 : Int) ≤ d) (c3 : d < (18446744073709551616 : Int)) (c4 : decide (Int.tmod k (8 : Int) < (0 : Int)) = true → (8 : Int) ≠ (0 : Int)) (c5 : decide (Int.tmod k (8 : Int) < (0 : Int)) = true → (-9223372036854775808 : Int) ≤ Int.tmod k (8 : Int) + (8 : Int)) (c6 : decide (Int.tmod k (8 : Int) < (0 : Int)) = true → Int.tmod k (8 : Int) + (8 : Int) ≤ (9223372036854775807 : Int)) (c7 : decide (Int.tmod k (8 : Int) < (0 : Int)) = false → (8 : Int) ≠ (0 : Int)) (c8 : decide (pick_0 k (8 : Int) = (1 : Int)) = false) (c9 : decide (pick_0 k (8 : Int) = (2 : Int)) = false) (c10 : decide (pick_0 k (8 : Int) = (3 : Int)) = false) (c11 : decide (pick_0 k (8 : Int) = (4 : Int)) = true) : Sx.PureP (Sx.AV.flt true (Sx.fneg (Sx.fabs (Sx.fsub x (Sx.cn (Int.toNat c)))))) (callC 19 [.agg [.int true .i64 k, .int true .u64 c, .int true .u64 d, .sbool z], .flt true x] (Sx.G.on [false, false, false, true])) := Sx.eqq (q := (((((((True ∧ (((0 : Int) ≤ c) ∧ (c < (18446744073709551616 : Int)))) ∧ (((0 : Int) ≤ d) ∧ (d < (18446744073709551616 : Int)))) ∧ ((decide (Int.tmod k (8 : Int) < (0 : Int)) = true → (8 : Int) ≠ (0 : Int)) ∧ ((decide (Int.tmod k (8 : Int) < (0 : Int)) = true → (-9223372036854775808 : Int) ≤ Int.tmod k (8 : Int) + (8 : Int)) ∧ ((decide (Int.tmod k (8 : Int) < (0 : Int)) = true → Int.tmod k (8 : Int) + (8 : Int) ≤ (9223372036854775807 : Int)) ∧ (decide (Int.tmod k (8 : Int) < (0 : Int)) = false → (8 : Int) ≠ (0 : Int)))))) ∧ (decide (pick_0 k (8 : Int) = (1 : Int)) = false)) ∧ (decide (pick_0 k (8 : Int) = (2 : Int)) = false)) ∧ (decide (pick_0 k (8 : Int) = (3 : Int)) = false)) ∧ (decide (pick_0 k (8 : Int) = (4 : Int)) = true))) (by kernel_rfl) ⟨⟨⟨⟨⟨⟨⟨trivial, ⟨c0, c1⟩⟩, ⟨c2, c3⟩⟩, ⟨c4, ⟨c5, ⟨c6, c7⟩⟩⟩⟩, c8⟩, c9⟩, c10⟩, c11⟩
theorem val_r6 (k c d : Int) (z : Bool) (x : Nat) (c0 : (0 : Int) ≤ c) (c1 : c < (18446744073709551616 : Int)) (c2 : (0 : Int) ≤ d) (c3 : d < (18446744073709551616 : Int)) (c4 : decide (Int.tmod k (8 : Int) < (0 : Int)) = true → (8 : Int) ≠ (0 : Int)) (c5 : decide (Int.tmod k (8 : Int) < (0 : Int)) = true → (-9223372036854775808 : Int) ≤ Int.tmod k (8 : Int) + (8 : Int)) (c6 : decide (Int.tmod k (8 : Int) < (0 : Int)) = true → Int.tmod k (8 : Int) + (8 : Int) ≤ (9223372036854775807 : Int)) (c7 : decide (Int.tmod k (8 : Int) < (0 : Int)) = false → (8 : Int) ≠ (0 : Int)) (c8 : decide (pick_0 k (8 : Int) = (1 : Int)) = false) (c9 : decide (pick_0 k (8 : Int) = (2 : Int)) = false) (c10 : decide (pick_0 k (8 : Int) = (3 : Int)) = false) (c11 : decide (pick_0 k (8 : Int) = (4 : Int)) = false) (c12 : decide (pick_0 k (8 : Int) = (5 : Int)) = true) : Sx.PureP (Sx.AV.raw false (9221120237041090561 : Nat)) (callC 19 [.agg [.int true .i64 k, .int true .u64 c, .int true .u64 d, .sbool z], .flt true x] (Sx.G.on [false, false, false, false, true])) := Sx.eqq (q := ((((((((True ∧ (((0 : Int) ≤ c) ∧ (c < (18446744073709551616 : Int)))) ∧ (((0 : Int) ≤ d) ∧ (d < (18446744073709551616 : Int)))) ∧ ((decide (Int.tmod k (8 : Int) < (0 : Int)) = true → (8 : Int) ≠ (0 : Int)) ∧ ((decide (Int.tmod k (8 : Int) < (0 : Int)) = true → (-9223372036854775808 : Int) ≤ Int.tmod k (8 : Int) + (8 : Int)) ∧ ((decide (Int.tmod k (8 : Int) < (0 : Int)) = true → Int.tmod k (8 : Int) + (8 : Int) ≤ (9223372036854775807 : Int)) ∧ (decide (Int.tmod k (8 : Int) < (0 : Int)) = false → (8 : Int) ≠ (0 : Int)))))) ∧ (decide (pick_0 k (8 : Int) = (1 : Int)) = false)) ∧ (decide (pick_0 k (8 : Int) = (2 : Int)) = false)) ∧ (decide (pick_0 k (8 : Int) = (3 : Int)) = false)) ∧ (decide (pick_0 k (8 : Int) = (4 : Int)) = false)) ∧ (decide (pick_0 k (8 : Int) = (5 : Int)) = true))) (by kernel_rfl) ⟨⟨⟨⟨⟨⟨⟨⟨trivial, ⟨c0, c1⟩⟩, ⟨c2, c3⟩⟩, ⟨c4, ⟨c5, ⟨c6, c7⟩⟩⟩⟩, c8⟩, c9⟩, c10⟩, c11⟩, c12⟩
theorem val_r7 (k c d : Int) (z : Bool) (x : Nat) (c0 : (0 : Int) ≤ c) (c1 : c < (18446744073709551616 : Int)) (c2 : (0 : Int) ≤ d) (c3 : d < (18446744073709551616 : Int)) (c4 : decide (Int.tmod k (8 : Int) < (0 : Int)) = true → (8 : Int) ≠ (0 : Int)) (c5 : decide (Int.tmod k (8 : Int) < (0 : Int)) = true → (-9223372036854775808 : Int) ≤ Int.tmod k (8 : Int) + (8 : Int)) (c6 : decide (Int.tmod k (8 : Int) < (0 : Int)) = true → Int.tmod k (8 : Int) + (8 : Int) ≤ (9223372036854775807 : Int)) (c7 : decide (Int.tmod k (8 : Int) < (0 : Int)) = false → (8 : Int) ≠ (0 : Int)) (c8 : decide (pick_0 k (8 : Int) = (1 : Int)) = false) (c9 : decide (pick_0 k (8 : Int) = (2 : Int)) = false) (c10 : decide (pick_0 k (8 : Int) = (3 : Int)) = false) (c11 : decide (pick_0 k (8 : Int) = (4 : Int)) = false) (c12 : decide (pick_0 k (8 : Int) = (5 : Int)) = false) (c13 : decide (pick_0 k (8 : Int) = (6 : Int)) = true) : Sx.PureP (Sx.AV.raw true (Int.toNat d)) (callC 19 [.agg [.int true .i64 k, .int true .u64 c, .int true .u64 d, .sbool z], .flt true x] (Sx.G.on [false, false, false, false, false, true])) := Sx.eqq (q := (((((((((True ∧ (((0 : Int) ≤ c) ∧ (c < (18446744073709551616 : Int)))) ∧ (((0 : Int) ≤ d) ∧ (d < (18446744073709551616 : Int)))) ∧ ((decide (Int.tmod k (8 : Int) < (0 : Int)) = true → (8 : Int) ≠ (0 : Int)) ∧ ((decide (Int.tmod k (8 : Int) < (0 : Int)) = true → (-9223372036854775808 : Int) ≤ Int.tmod k (8 : Int) + (8 : Int)) ∧ ((decide (Int.tmod k (8 : Int) < (0 : Int)) = true → Int.tmod k (8 : Int) + (8 : Int) ≤ (9223372036854775807 : Int)) ∧ (decide (Int.tmod k (8 : Int) < (0 : Int)) = false → (8 : Int) ≠ (0 : Int)))))) ∧ (decide (pick_0 k (8 : Int) = (1 : Int)) = false)) ∧ (decide (pick_0 k (8 : Int) = (2 : Int)) = false)) ∧ (decide (pick_0 k (8 : Int) = (3 : Int)) = false)) ∧ (decide (pick_0 k (8 : Int) = (4 : Int)) = false)) ∧ (decide (pick_0 k (8 : Int) = (5 : Int)) = false)) ∧ (decide (pick_0 k (8 : Int) = (6 : Int)) = true))) (by kernel_rfl) ⟨⟨⟨⟨⟨⟨⟨⟨⟨trivial, ⟨c0, c1⟩⟩, ⟨c2, c3⟩⟩, ⟨c4, ⟨c5, ⟨c6, c7⟩⟩⟩⟩, c8⟩, c9⟩, c10⟩, c11⟩, c12⟩, c13⟩
theorem val_r8 (k c d : Int) (z : Bool) (x : Nat) (c0 : (0 : Int) ≤ c) (c1 : c < (18446744073709551616 : Int)) (c2 : (0 : Int) ≤ d) (c3 : d < (18446744073709551616 : Int)) (c4 : decide (Int.tmod k (8 : Int) < (0 : Int)) = true → (8 : Int) ≠ (0 : Int)) (c5 : decide (Int.tmod k (8 : Int) < (0 : Int)) = true → (-9223372036854775808 : Int) ≤ Int.tmod k (8 : Int) + (8 : Int)) (c6 : decide (Int.tmod k (8 : Int) < (0 : Int)) = true → Int.tmod k (8 : Int) + (8 : Int) ≤ (9223372036854775807 : Int)) (c7 : decide (Int.tmod k (8 : Int) < (0 : Int)) = false → (8 : Int) ≠ (0 : Int)) (c8 : decide (pick_0 k (8 : Int) = (1 : Int)) = false) (c9 : decide (pick_0 k (8 : Int) = (2 : Int)) = false) (c10 : decide (pick_0 k (8 : Int) = (3 : Int)) = false) (c11 : decide (pick_0 k (8 : Int) = (4 : Int)) = false) (c12 : decide (pick_0 k (8 : Int) = (5 : Int)) = false) (c13 : decide (pick_0 k (8 : Int) = (6 : Int)) = false) (c14 : decide (pick_0 k (8 : Int) = (7 : Int)) = true) : Sx.PureP (Sx.AV.flt true (Sx.fsub (Sx.cn (Int.toNat c)) x)) (callC 19 [.agg [.int true .i64 k, .int true .u64 c, .int true .u64 d, .sbool z], .flt true x] (Sx.G.on [false, false, false, false, false, false, true])) := Sx.eqq (q := ((((((((((True ∧ (((0 : Int) ≤ c) ∧ (c < (18446744073709551616 : Int)))) ∧ (((0 : Int) ≤ d) ∧ (d < (18446744073709551616 : Int)))) ∧ ((decide (Int.tmod k (8 : Int) < (0 : Int)) = true → (8 : Int) ≠ (0 : Int)) ∧ ((decide (Int.tmod k (8 : Int) < (0 : Int)) = true → (-9223372036854775808 : Int) ≤ Int.tmod k (8 : Int) + (8 : Int)) ∧ ((decide (Int.tmod k (8 : Int) < (0 : Int)) = true → Int.tmod k (8 : Int) + (8 : Int) ≤ (9223372036854775807 : Int)) ∧ (decide (Int.tmod k (8 : Int) < (0 : Int)) = false → (8 : Int) ≠ (0 : Int)))))) ∧ (decide (pick_0 k (8 : Int) = (1 : Int)) = false)) ∧ (decide (pick_0 k (8 : Int) = (2 : Int)) = false)) ∧ (decide (pick_0 k (8 : Int) = (3 : Int)) = false)) ∧ (decide (pick_0 k (8 : Int) = (4 : Int)) = false)) ∧ (decide (pick_0 k (8 : Int) = (5 : Int)) = false)) ∧ (decide (pick_0 k (8 : Int) = (6 : Int)) = false)) ∧ (decide (pick_0 k (8 : Int) = (7 : Int)) = true))) (by kernel_rfl) ⟨⟨⟨⟨⟨⟨⟨⟨⟨⟨trivial, ⟨c0, c1⟩⟩, ⟨c2, c3⟩⟩, ⟨c4, ⟨c5, ⟨c6, c7⟩⟩⟩⟩, c8⟩, c9⟩, c10⟩, c11⟩, c12⟩, c13⟩, c14⟩
theorem val_r9 (k c d : Int) (z : Bool) (x : Nat) (c0 : (0 : Int) ≤ c) (c1 : c < (18446744073709551616 : Int)) (c2 : (0 : Int) ≤ d) (c3 : d < (18446744073709551616 : Int)) (c4 : decide (Int.tmod k (8 : Int) < (0 : Int)) = true → (8 : Int) ≠ (0 : Int)) (c5 : decide (Int.tmod k (8 : Int) < (0 : Int)) = true → (-9223372036854775808 : Int) ≤ Int.tmod k (8 : Int) + (8 : Int)) (c6 : decide (Int.tmod k (8 : Int) < (0 : Int)) = true → Int.tmod k (8 : Int) + (8 : Int) ≤ (9223372036854775807 : Int)) (c7 : decide (Int.tmod k (8 : Int) < (0 : Int)) = false → (8 : Int) ≠ (0 : Int)) (c8 : decide (pick_0 k (8 : Int) = (1 : Int)) = false) (c9 : decide (pick_0 k (8 : Int) = (2 : Int)) = false) (c10 : decide (pick_0 k (8 : Int) = (3 : Int)) = false) (c11 : decide (pick_0 k (8 : Int) = (4 : Int)) = false) (c12 : decide (pick_0 k (8 : Int) = (5 : Int)) = false) (c13 : decide (pick_0 k (8 : Int) = (6 : Int)) = false) (c14 : decide (pick_0 k (8 : Int) = (7 : Int)) = false) : Sx.PureP (Sx.AV.flt true (Sx.fsub x (Sx.cn (Int.toNat c)))) (callC 19 [.agg [.int true .i64 k, .int true .u64 c, .int true .u64 d, .sbool z], .flt true x] (Sx.G.on [false, false, false, false, false, false, false])) := Sx.eqq (q := ((((((((((True ∧ (((0 : Int) ≤ c) ∧ (c < (18446744073709551616 : Int)))) ∧ (((0 : Int) ≤ d) ∧ (d < (18446744073709551616 : Int)))) ∧ ((decide (Int.tmod k (8 : Int) < (0 : Int)) = true → (8 : Int) ≠ (0 : Int)) ∧ ((decide (Int.tmod k (8 : Int) < (0 : Int)) = true → (-9223372036854775808 : Int) ≤ Int.tmod k (8 : Int) + (8 : Int)) ∧ ((decide (Int.tmod k (8 : Int) < (0 : Int)) = true → Int.tmod k (8 : Int) + (8 : Int) ≤ (9223372036854775807 : Int)) ∧ (decide (Int.tmod k (8 : Int) < (0 : Int)) = false → (8 : Int) ≠ (0 : Int)))))) ∧ (decide (pick_0 k (8 : Int) = (1 : Int)) = false)) ∧ (decide (pick_0 k (8 : Int) = (2 : Int)) = false)) ∧ (decide (pick_0 k (8 : Int) = (3 : Int)) = false)) ∧ (decide (pick_0 k (8 : Int) = (4 : Int)) = false)) ∧ (decide (pick_0 k (8 : Int) = (5 : Int)) = false)) ∧ (decide (pick_0 k (8 : Int) = (6 : Int)) = false)) ∧ (decide (pick_0 k (8 : Int) = (7 : Int)) = false))) (by kernel_rfl) ⟨⟨⟨⟨⟨⟨⟨⟨⟨⟨trivial, ⟨c0, c1⟩⟩, ⟨c2, c3⟩⟩, ⟨c4, ⟨c5, ⟨c6, c7⟩⟩⟩⟩, c8⟩, c9⟩, c10⟩, c11⟩, c12⟩, c13⟩, c14⟩
noncomputable def val_0 (k c d : Int) (z : Bool) (x : Nat) : Nat := (bif decide (pick_0 k (8 : Int) = (1 : Int)) then (Sx.fmul (Sx.fmul (Sx.fsub x (Sx.cn (Int.toNat c))) (Sx.fsub x (Sx.cn (Int.toNat c)))) (Sx.fsub x (Sx.cn (Int.toNat c)))) else (bif decide (pick_0 k (8 : Int) = (2 : Int)) then (bif Sx.flt x (Sx.cn (Int.toNat c)) then ((13830554455654793216 : Nat)) else ((4607182418800017408 : Nat))) else (bif decide (pick_0 k (8 : Int) = (3 : Int)) then (bif Sx.fgt x (Sx.cn (Int.toNat d)) then ((9221120237041090561 : Nat)) else (Sx.fsub x (Sx.cn (Int.toNat c)))) else (bif decide (pick_0 k (8 : Int) = (4 : Int)) then (Sx.fneg (Sx.fabs (Sx.fsub x (Sx.cn (Int.toNat c))))) else (bif decide (pick_0 k (8 : Int) = (5 : Int)) then ((9221120237041090561 : Nat)) else (bif decide (pick_0 k (8 : Int) = (6 : Int)) then (Sx.cn (Int.toNat d)) else (bif decide (pick_0 k (8 : Int) = (7 : Int)) then (Sx.fsub (Sx.cn (Int.toNat c)) x) else (Sx.fsub x (Sx.cn (Int.toNat c))))))))))
noncomputable def valS : List Sx.AV → Sx.M Sx.AV
 | [.agg [.int s0 .i64 k, .int s1 .u64 c, .int s2 .u64 d, .sbool z], .flt s4 x] => (Sx.M.req ((0 : Int) ≤ c ∧ c < (18446744073709551616 : Int) ∧ (0 : Int) ≤ d ∧ d < (18446744073709551616 : Int) ∧ (decide (Int.tmod k (8 : Int) < (0 : Int)) = true → (8 : Int) ≠ (0 : Int)) ∧ (decide (Int.tmod k (8 : Int) < (0 : Int)) = true → (-9223372036854775808 : Int) ≤ Int.tmod k (8 : Int) + (8 : Int)) ∧ (decide (Int.tmod k (8 : Int) < (0 : Int)) = true → Int.tmod k (8 : Int) + (8 : Int) ≤ (9223372036854775807 : Int)) ∧ (decide (Int.tmod k (8 : Int) < (0 : Int)) = false → (8 : Int) ≠ (0 : Int)))).andThen fun _ => Sx.M.ret (Sx.AV.flt true (val_0 k c d z x))
 | args => callC 19 args
theorem valS_ok : ∀ args v g g', valS args g = .done v g' → Sx.CallIs Try.prog 19 args v g g' := by
 intro args v g g' h
 unfold valS at h
 split at h
 ·rename_i s0 k s1 c s2 d z s4 x
  obtain ⟨_, g1, a1, h1⟩ := Sx.done_of h
  obtain ⟨rfl, rfl⟩ := Sx.ret_done h1
  refine Sx.scalK callC_ok (Sx.req_done a1) fun ⟨h0, h1, h2, h3, h4, h5, h6, h7⟩ μ cargs ha => ?_
  have ha' : Sx.Reps 0 Sx.MM.none [.agg [.int true .i64 k, .int true .u64 c, .int true .u64 d, .sbool z], .flt true x] cargs.toList := by simpa only [Sx.Reps, Sx.Rep] using ha
  cases t0 : decide (pick_0 k (8 : Int) = (1 : Int)) with
  | true =>
   exact ⟨_, _, _, ha', val_r0 k c d z x h0 h1 h2 h3 h4 h5 h6 h7 t0, rfl, fun cv hc => by have := hc g.nx μ; have e0 : val_0 k c d z x = (Sx.fmul (Sx.fmul (Sx.fsub x (Sx.cn (Int.toNat c))) (Sx.fsub x (Sx.cn (Int.toNat c)))) (Sx.fsub x (Sx.cn (Int.toNat c)))) := (Sx.ct t0).trans (rfl); rw [e0]; (first | simpa only [Sx.AV.fl, Sx.AV.fl1, Sx.Rep, Sx.Reps, Sx.Rep_cmpB] using this.fl | (have h2 := this.fl; simp only [Sx.AV.fl, Sx.AV.fl1, Sx.Rep] at h2 ⊢; obtain ⟨b, e, q, l⟩ := h2; exact ⟨b, e, q.trans (by kernel_rfl), l⟩))⟩
  | false =>
   cases t1 : decide (pick_0 k (8 : Int) = (2 : Int)) with
   | true =>
    cases t2 : Sx.flt x (Sx.cn (Int.toNat c)) with
    | true =>
     exact ⟨_, _, _, ha', val_r1 k c d z x h0 h1 h2 h3 h4 h5 h6 h7 t0 t1 t2, rfl, fun cv hc => by have := hc g.nx μ; have e0 : val_0 k c d z x = ((13830554455654793216 : Nat)) := (Sx.cf t0).trans ((Sx.ct t1).trans ((Sx.ct t2).trans (rfl))); rw [e0]; (first | simpa only [Sx.AV.fl, Sx.AV.fl1, Sx.Rep, Sx.Reps, Sx.Rep_cmpB] using this.fl | (have h2 := this.fl; simp only [Sx.AV.fl, Sx.AV.fl1, Sx.Rep] at h2 ⊢; obtain ⟨b, e, q, l⟩ := h2; exact ⟨b, e, q.trans (by kernel_rfl), l⟩))⟩
    | false =>
     exact ⟨_, _, _, ha', val_r2 k c d z x h0 h1 h2 h3 h4 h5 h6 h7 t0 t1 t2, rfl, fun cv hc => by have := hc g.nx μ; have e0 : val_0 k c d z x = ((4607182418800017408 : Nat)) := (Sx.cf t0).trans ((Sx.ct t1).trans ((Sx.cf t2).trans (rfl))); rw [e0]; (first | simpa only [Sx.AV.fl, Sx.AV.fl1, Sx.Rep, Sx.Reps, Sx.Rep_cmpB] using this.fl | (have h2 := this.fl; simp only [Sx.AV.fl, Sx.AV.fl1, Sx.Rep] at h2 ⊢; obtain ⟨b, e, q, l⟩ := h2; exact ⟨b, e, q.trans (by kernel_rfl), l⟩))⟩
   | false =>
    cases t2 : decide (pick_0 k (8 : Int) = (3 : Int)) with
    | true =>
     cases t3 : Sx.fgt x (Sx.cn (Int.toNat d)) with
     | true =>
      exact ⟨_, _, _, ha', val_r3 k c d z x h0 h1 h2 h3 h4 h5 h6 h7 t0 t1 t2 t3, rfl, fun cv hc => by have := hc g.nx μ; have e0 : val_0 k c d z x = ((9221120237041090561 : Nat)) := (Sx.cf t0).trans ((Sx.cf t1).trans ((Sx.ct t2).trans ((Sx.ct t3).trans (rfl)))); rw [e0]; (first | simpa only [Sx.AV.fl, Sx.AV.fl1, Sx.Rep, Sx.Reps, Sx.Rep_cmpB] using this.fl | (have h2 := this.fl; simp only [Sx.AV.fl, Sx.AV.fl1, Sx.Rep] at h2 ⊢; obtain ⟨b, e, q, l⟩ := h2; exact ⟨b, e, q.trans (by kernel_rfl), l⟩))⟩
     | false =>
      exact ⟨_, _, _, ha', val_r4 k c d z x h0 h1 h2 h3 h4 h5 h6 h7 t0 t1 t2 t3, rfl, fun cv hc => by have := hc g.nx μ; have e0 : val_0 k c d z x = (Sx.fsub x (Sx.cn (Int.toNat c))) := (Sx.cf t0).trans ((Sx.cf t1).trans ((Sx.ct t2).trans ((Sx.cf t3).trans (rfl)))); rw [e0]; (first | simpa only [Sx.AV.fl, Sx.AV.fl1, Sx.Rep, Sx.Reps, Sx.Rep_cmpB] using this.fl | (have h2 := this.fl; simp only [Sx.AV.fl, Sx.AV.fl1, Sx.Rep] at h2 ⊢; obtain ⟨b, e, q, l⟩ := h2; exact ⟨b, e, q.trans (by kernel_rfl), l⟩))⟩
    | false =>
     cases t3 : decide (pick_0 k (8 : Int) = (4 : Int)) with
     | true =>
      exact ⟨_, _, _, ha', val_r5 k c d z x h0 h1 h2 h3 h4 h5 h6 h7 t0 t1 t2 t3, rfl, fun cv hc => by have := hc g.nx μ; have e0 : val_0 k c d z x = (Sx.fneg (Sx.fabs (Sx.fsub x (Sx.cn (Int.toNat c))))) := (Sx.cf t0).trans ((Sx.cf t1).trans ((Sx.cf t2).trans ((Sx.ct t3).trans (rfl)))); rw [e0]; (first | simpa only [Sx.AV.fl, Sx.AV.fl1, Sx.Rep, Sx.Reps, Sx.Rep_cmpB] using this.fl | (have h2 := this.fl; simp only [Sx.AV.fl, Sx.AV.fl1, Sx.Rep] at h2 ⊢; obtain ⟨b, e, q, l⟩ := h2; exact ⟨b, e, q.trans (by kernel_rfl), l⟩))⟩
     | false =>
      cases t4 : decide (pick_0 k (8 : Int) = (5 : Int)) with
      | true =>
       exact ⟨_, _, _, ha', val_r6 k c d z x h0 h1 h2 h3 h4 h5 h6 h7 t0 t1 t2 t3 t4, rfl, fun cv hc => by have := hc g.nx μ; have e0 : val_0 k c d z x = ((9221120237041090561 : Nat)) := (Sx.cf t0).trans ((Sx.cf t1).trans ((Sx.cf t2).trans ((Sx.cf t3).trans ((Sx.ct t4).trans (rfl))))); rw [e0]; (first | simpa only [Sx.AV.fl, Sx.AV.fl1, Sx.Rep, Sx.Reps, Sx.Rep_cmpB] using this.fl | (have h2 := this.fl; simp only [Sx.AV.fl, Sx.AV.fl1, Sx.Rep] at h2 ⊢; obtain ⟨b, e, q, l⟩ := h2; exact ⟨b, e, q.trans (by kernel_rfl), l⟩))⟩
      | false =>
       cases t5 : decide (pick_0 k (8 : Int) = (6 : Int)) with
       | true =>
        exact ⟨_, _, _, ha', val_r7 k c d z x h0 h1 h2 h3 h4 h5 h6 h7 t0 t1 t2 t3 t4 t5, rfl, fun cv hc => by have := hc g.nx μ; have e0 : val_0 k c d z x = (Sx.cn (Int.toNat d)) := (Sx.cf t0).trans ((Sx.cf t1).trans ((Sx.cf t2).trans ((Sx.cf t3).trans ((Sx.cf t4).trans ((Sx.ct t5).trans (rfl)))))); rw [e0]; (first | simpa only [Sx.AV.fl, Sx.AV.fl1, Sx.Rep, Sx.Reps, Sx.Rep_cmpB] using this.fl | (have h2 := this.fl; simp only [Sx.AV.fl, Sx.AV.fl1, Sx.Rep] at h2 ⊢; obtain ⟨b, e, q, l⟩ := h2; exact ⟨b, e, q.trans (by kernel_rfl), l⟩))⟩
       | false =>
        cases t6 : decide (pick_0 k (8 : Int) = (7 : Int)) with
        | true =>
         exact ⟨_, _, _, ha', val_r8 k c d z x h0 h1 h2 h3 h4 h5 h6 h7 t0 t1 t2 t3 t4 t5 t6, rfl, fun cv hc => by have := hc g.nx μ; have e0 : val_0 k c d z x = (Sx.fsub (Sx.cn (Int.toNat c)) x) := (Sx.cf t0).trans ((Sx.cf t1).trans ((Sx.cf t2).trans ((Sx.cf t3).trans ((Sx.cf t4).trans ((Sx.cf t5).trans ((Sx.ct t6).trans (rfl))))))); rw [e0]; (first | simpa only [Sx.AV.fl, Sx.AV.fl1, Sx.Rep, Sx.Reps, Sx.Rep_cmpB] using this.fl | (have h2 := this.fl; simp only [Sx.AV.fl, Sx.AV.fl1, Sx.Rep] at h2 ⊢; obtain ⟨b, e, q, l⟩ := h2; exact ⟨b, e, q.trans (by kernel_rfl), l⟩))⟩
        | false =>
         exact ⟨_, _, _, ha', val_r9 k c d z x h0 h1 h2 h3 h4 h5 h6 h7 t0 t1 t2 t3 t4 t5 t6, rfl, fun cv hc => by have := hc g.nx μ; have e0 : val_0 k c d z x = (Sx.fsub x (Sx.cn (Int.toNat c))) := (Sx.cf t0).trans ((Sx.cf t1).trans ((Sx.cf t2).trans ((Sx.cf t3).trans ((Sx.cf t4).trans ((Sx.cf t5).trans ((Sx.cf t6).trans (rfl))))))); rw [e0]; (first | simpa only [Sx.AV.fl, Sx.AV.fl1, Sx.Rep, Sx.Reps, Sx.Rep_cmpB] using this.fl | (have h2 := this.fl; simp only [Sx.AV.fl, Sx.AV.fl1, Sx.Rep] at h2 ⊢; obtain ⟨b, e, q, l⟩ := h2; exact ⟨b, e, q.trans (by kernel_rfl), l⟩))⟩
 ·exact callC_ok _ _ _ _ _ h
/-- the function's value -/
noncomputable def FV (k c d : Int) (x : Nat) : Nat := val_0 k c d false x
def FC (c d : Int) : Prop := 0 ≤ c ∧ c < 18446744073709551616 ∧ 0 ≤ d ∧ d < 18446744073709551616
noncomputable def fvS : List Sx.AV → Sx.M Sx.AV
 | [.agg [.int s0 .i64 k, .int s1 .u64 c, .int s2 .u64 d, .bool z], .flt s4 x] => (Sx.M.req (FC c d ∧ -9223372036854775808 ≤ k ∧ k ≤ 9223372036854775807)).andThen fun _ => Sx.M.ret (.flt true (FV k c d x))
 | _ => Sx.M.no
theorem fvS_tch : ∀ args, Sx.Tch (fvS args) := by
 intro args; unfold fvS; split
 ·exact (Sx.Tch.req _).andThen fun _ => Sx.Tch.ret _
 ·exact Sx.Tch.no
theorem pick8 {k : Int} : decide (Int.tmod k 8 < 0) = true → Int.tmod k 8 + 8 ≤ 9223372036854775807 ∧ -9223372036854775808 ≤ Int.tmod k 8 + 8 := fun h => by
 have := of_decide_eq_true h
 have := Int.lt_tmod_of_pos k (b := 8) (by decide)
 omega
theorem fvS_ok : ∀ args v g g', fvS args g = .done v g' → Sx.CallIs Try.prog 19 args v g g' := by
 intro args v g g' h
 unfold fvS at h
 split at h
 ·rename_i s0 k s1 c s2 d z s4 x
  obtain ⟨_, g1, a1, h1⟩ := Sx.done_of h
  obtain ⟨rfl, rfl⟩ := Sx.ret_done h1
  have kk := Sx.req_done a1
  have q := valS_ok [.agg [.int s0 .i64 k, .int s1 .u64 c, .int s2 .u64 d, .sbool z], .flt s4 x] _ g _ rfl
  have q2 : Sx.CallIs Try.prog 19 [.agg [.int s0 .i64 k, .int s1 .u64 c, .int s2 .u64 d, .bool z], .flt s4 x] _ g _ := ⟨q.1, fun hc μ w cargs hg ha => q.2 hc μ w cargs hg (by simpa only [Sx.Reps, Sx.Rep] using ha)⟩
  refine q2.by kk.1 kk.2.1 (fun hc => ?_) (fun hc => (kk.2.2 hc).1)
  obtain ⟨hc0, ⟨h1, h2, h3, h4⟩, _⟩ := kk.2.2 hc
  refine ⟨⟨hc0, ?_⟩, Sx.AV.ge.flt' _ _ rfl⟩
  (repeat' apply And.intro) <;> (intros; first | assumption | decide | exact (pick8 (by assumption)).1 | exact (pick8 (by assumption)).2 | omega)
 ·exact (Sx.no_done h).elim
noncomputable def gamD : Sx.Known := Sx.kc 11 Sx.ofBits (Sx.kc 48 Sx.toBits (Sx.kc 30 pickS (Sx.kc 43 finS (Sx.kc 46 finS (Sx.kc 24 placeS (Sx.kc 66 rplaceS (Sx.kc 32 atS (Sx.kc 67 ratS (Sx.kc 13 sameS (Sx.kc 10 midTS (Sx.kc 47 rmidTS (Sx.kc 50 aptTS (Sx.kc 68 raptTS (Sx.kc 57 unlS (Sx.kc 19 fvS (Sx.kn))))))))))))))))
theorem gamD_ok : Sx.KnownOk Try.prog gamD := Sx.kc_ok ((Sx.ofBits_is Try.prog).callIs Try.func11 (by kernel_rfl) (by kernel_rfl) (by kernel_rfl) (by kernel_rfl)) (Sx.kc_ok ((Sx.toBits_is Try.prog).callIs Try.func48 (by kernel_rfl) (by kernel_rfl) (by kernel_rfl) (by kernel_rfl)) (Sx.kc_ok pickS_ok (Sx.kc_ok fin43_ok (Sx.kc_ok fin46_ok (Sx.kc_ok place24_ok (Sx.kc_ok rplace66_ok (Sx.kc_ok at32_ok (Sx.kc_ok rat67_ok (Sx.kc_ok same13_ok (Sx.kc_ok midTS_ok (Sx.kc_ok rmidTS_ok (Sx.kc_ok aptTS_ok (Sx.kc_ok raptTS_ok (Sx.kc_ok unlS_ok (Sx.kc_ok fvS_ok (Sx.kn_ok))))))))))))))))
theorem gamD_tch : Sx.KnownT gamD := Sx.kc_tch Sx.Tch.ofBits (Sx.kc_tch Sx.Tch.toBits (Sx.kc_tch pickS_tch (Sx.kc_tch finS_tch (Sx.kc_tch finS_tch (Sx.kc_tch placeS_tch (Sx.kc_tch rplaceS_tch (Sx.kc_tch atS_tch (Sx.kc_tch ratS_tch (Sx.kc_tch sameS_tch (Sx.kc_tch midTS_tch (Sx.kc_tch rmidTS_tch (Sx.kc_tch aptTS_tch (Sx.kc_tch raptTS_tch (Sx.kc_tch unlS_tch (Sx.kc_tch fvS_tch (Sx.kn_tch))))))))))))))))
noncomputable def callD : Sx.Calls' := Sx.runN Try.prog gamD (Sx.regionC Try.prog) 1000 50
theorem callD_ok : Sx.CallOk Try.prog callD := Sx.engineC gamD_ok gamD_tch (by kernel_rfl) (by kernel_rfl) 1000 50
theorem callD_reg (n : Nat) : Sx.RegionOk Try.prog (Sx.regionC Try.prog callD n) n := Sx.runN_regionC gamD_ok gamD_tch (by kernel_rfl) (by kernel_rfl) 1000 50 n
noncomputable abbrev piececallD (f : Func) (c : Code) (fr : Sx.Fr) (H : Sx.T Sx.ABk) (K : Nat) (path : List Bool) : Sx.Res (Sx.Ex × Sx.Fr) :=
 Sx.codeA Try.prog callD (Sx.regionC Try.prog callD f.ntmps) Sx.noLoops f.ntmps 1000 c fr ⟨H, K, [], path, True⟩

theorem faA_r0 (k c d : Int) (z : Bool) (x n : Nat) (r : Nat → Nat) (c0 : n ≤ n) (c1 : (n + (1 : Nat)) * (8 : Nat) ≤ (140737488355328 : Nat)) (c2 : n + (1 : Nat) ≤ (9223372036854775807 : Nat)) (c3 : (0 : Int) ≤ c) (c4 : c < (18446744073709551616 : Int)) (c5 : (0 : Int) ≤ d) (c6 : d < (18446744073709551616 : Int)) (c7 : (-9223372036854775808 : Int) ≤ k) (c8 : k ≤ (9223372036854775807 : Int)) : Sx.PieceN 20 (Sx.Ex.ret) [(4, .flt true (FV k c d x))] [(1, .cells true 1 1 (.fn fun j => bif Nat.beq j 0 then [.slc true true ⟨false, 5, 0, 0⟩ (n + (1 : Nat))] else [.slc true true ⟨false, 3, 0, 0⟩ n])), (5, .cells true 1 (n + (1 : Nat)) (.fn fun j => bif decide (j < n) then [.flt true (r j)] else [.flt true x]))] (piececallD Try.f51 ((Sx.bodyOf Try.f51)) (Sx.frameOf [.flt true x, .ptr ⟨false, 0, 0, 0⟩, .ptr ⟨false, 2, 0, 0⟩] 0 .e) (Sx.hpL [(0, .cells false 1 1 (.fn fun j => [.ptr ⟨false, 1, 0, 0⟩])), (1, .cells true 1 1 (.fn fun j => [.slc true true ⟨false, 3, 0, 0⟩ n])), (2, .cells false 4 1 (.fn fun j => [.int true .i64 k, .int true .u64 c, .int true .u64 d, .bool z])), (3, .cells true 1 n (.fn fun j => [.flt true (r j)]))]) 4 []) := Sx.eqn (q := ((True ∧ ((n ≤ n) ∧ (((n + (1 : Nat)) * (8 : Nat) ≤ (140737488355328 : Nat)) ∧ (n + (1 : Nat) ≤ (9223372036854775807 : Nat))))) ∧ ((((0 : Int) ≤ c) ∧ ((c < (18446744073709551616 : Int)) ∧ (((0 : Int) ≤ d) ∧ (d < (18446744073709551616 : Int))))) ∧ (((-9223372036854775808 : Int) ≤ k) ∧ (k ≤ (9223372036854775807 : Int)))))) (by kernel_rfl) ⟨⟨trivial, ⟨c0, ⟨c1, c2⟩⟩⟩, ⟨⟨c3, ⟨c4, ⟨c5, c6⟩⟩⟩, ⟨c7, c8⟩⟩⟩
theorem faA (B : Nat) (hB : B ≤ 4) (k c d : Int) (z : Bool) (x n : Nat) (r : Nat → Nat) (x0 : ((n + (1 : Nat)) * (8 : Nat) ≤ (140737488355328 : Nat))) (x1 : (n + (1 : Nat) ≤ (9223372036854775807 : Nat))) (x2 : ((0 : Int) ≤ c)) (x3 : (c < (18446744073709551616 : Int))) (x4 : ((0 : Int) ≤ d)) (x5 : (d < (18446744073709551616 : Int))) (x6 : ((-9223372036854775808 : Int) ≤ k)) (x7 : (k ≤ (9223372036854775807 : Int))) : Sx.GoesB Try.prog ((Sx.bodyOf Try.f51)) Try.f51.ntmps B 4 20 (Sx.frameOf [.flt true x, .ptr ⟨false, 0, 0, 0⟩, .ptr ⟨false, 2, 0, 0⟩] 0 .e) (Sx.hpL [(0, .cells false 1 1 (.fn fun j => [.ptr ⟨false, 1, 0, 0⟩])), (1, .cells true 1 1 (.fn fun j => [.slc true true ⟨false, 3, 0, 0⟩ n])), (2, .cells false 4 1 (.fn fun j => [.int true .i64 k, .int true .u64 c, .int true .u64 d, .bool z])), (3, .cells true 1 n (.fn fun j => [.flt true (r j)]))]) fun e fr' H' => (e = .ret ∧ fr' = Sx.frL [(4, .flt true (FV k c d x))] ∧ H' = Sx.hpL [(1, .cells true 1 1 (.fn fun j => bif Nat.beq j 0 then [.slc true true ⟨false, 5, 0, 0⟩ (n + (1 : Nat))] else [.slc true true ⟨false, 3, 0, 0⟩ n])), (5, .cells true 1 (n + (1 : Nat)) (.fn fun j => bif decide (j < n) then [.flt true (r j)] else [.flt true x]))]) := by
 exact (Sx.GoesB.runN callD_ok (callD_reg _) (Sx.LoopsIn.none _ _ _) (faA_r0 k c d z x n r (by first | decide | omega) (x0) (x1) (x2) (x3) (x4) (x5) (x6) (x7)) hB).mono fun e fr' H' h => h
/-- a row of one float -/
def FRow (r : List Sx.AV) : Prop := ∃ s x, r = [.flt s x]
def flo : List Sx.AV → Nat
 | [.flt _ x] => x
 | _ => 0
theorem FRow.ge {r : List Sx.AV} (h : FRow r) : Sx.RowGe r [.flt true (flo r)] := by
 obtain ⟨s, x, rfl⟩ := h
 exact ⟨Sx.AV.ge.flt' _ _ rfl, rfl, trivial⟩
def KB (k : Int) : Prop := -9223372036854775808 ≤ k ∧ k ≤ 9223372036854775807
/-- f(x), x being noted -/
noncomputable def askS : List Sx.AV → Sx.M Sx.AV
 | [.flt _ x, .ptr lp, .ptr fp] => (Sx.getC lp.g).andThen fun bl => (Sx.getC fp.g).andThen fun bf =>
  match bl.2.2.2.row 0, bf.2.2.2.row 0 with
  | [.ptr pa], [.int _ .i64 k, .int _ .u64 c, .int _ .u64 d, .bool z] => (Sx.getC pa.g).andThen fun bp =>
   match bp.2.2.2.row 0 with
   | [.slc _ true a n] => (Sx.getC a.g).andThen fun bb => (Sx.M.okIf ((Nat.beq bl.2.1 1 && Nat.beq bl.2.2.1 1 && Nat.beq bf.2.1 4 && Nat.beq bf.2.2.1 1) && (bp.1 && Nat.beq bp.2.1 1 && Nat.beq bp.2.2.1 1 && bb.1 && Nat.beq bb.2.1 1) && (Nat.beq lp.i 0 && Nat.beq lp.o 0 && Nat.beq fp.i 0 && Nat.beq fp.o 0 && Nat.beq pa.i 0 && Nat.beq pa.o 0 && Nat.beq a.i 0 && Nat.beq a.o 0) && Sx.nodupB [lp.g, pa.g, fp.g, a.g])).andThen fun _ =>
    (Sx.M.req (n = bb.2.2.1 ∧ FC c d ∧ KB k ∧ n * 8 + 8 ≤ 140737488355328 ∧ ∀ j, j < n → FRow (bb.2.2.2.row j))).andThen fun _ =>
    (Sx.M.delB a.g).andThen fun _ => (Sx.M.newB (.cells true 1 (n + 1) (.fn fun j => bif decide (j < n) then [.flt true (flo (bb.2.2.2.row j))] else [.flt true x]))).andThen fun N =>
    (Sx.M.setB pa.g (.cells true 1 1 (.fn fun _ => [.slc true true ⟨false, N, 0, 0⟩ (n + 1)]))).andThen fun _ => Sx.M.ret (.flt true (FV k c d x))
   | _ => Sx.M.no
  | _, _ => Sx.M.no
 | _ => Sx.M.no
theorem askS_tch : ∀ args, Sx.Tch (askS args) := by
 intro args
 unfold askS
 split
 ·refine (Sx.Tch.getC _).andThen fun bl => (Sx.Tch.getC _).andThen fun bf => ?_
  split
  ·refine (Sx.Tch.getC _).andThen fun bp => ?_
   split
   ·exact (Sx.Tch.getC _).andThen fun _ => (Sx.Tch.okIf _).andThen fun _ => (Sx.Tch.req _).andThen fun _ => (Sx.Tch.delB _).andThen fun _ => (Sx.Tch.newB _).andThen fun _ => (Sx.Tch.setB _ _).andThen fun _ => Sx.Tch.ret _
   ·exact Sx.Tch.no
  ·exact Sx.Tch.no
 ·exact Sx.Tch.no
theorem rep_ptr0 {N K0 i : Nat} {μ : Sx.MM} {ρ : Nat → Nat} {a : Sx.AA} {c : Value} (h : Sx.Rep N μ (.ptr a) c) (h1 : a.i = 0) (h2 : a.o = 0) (hi : i < K0) (e : ρ i = a.g) : Sx.Rep K0 (μ.via ρ) (.ptr ⟨false, i, 0, 0⟩) c := by
 simp only [Sx.Rep] at h ⊢
 refine ⟨hi, h.2.trans ?_⟩
 simp only [Sx.MM.addr, Sx.MM.via, e, h1, h2]
theorem ge_ptr {a : Sx.AA} {q : Nat} (h1 : a.g = q) (h2 : a.i = 0) (h3 : a.o = 0) : Sx.AV.ge (.ptr a) (.ptr ⟨false, q, 0, 0⟩) := fun N μ c h => by
 simp only [Sx.Rep] at h ⊢
 subst h1
 refine ⟨h.1, h.2.trans ?_⟩
 simp only [Sx.MM.addr, h2, h3]
/-- one row in view -/
theorem view1 {N : Nat} {μ : Sx.MM} {hp : Array Obj} {g sz : Nat} {own : Bool} {c : Sx.Cont} {row : List Sx.AV} (h : Sx.BkOk N μ hp g (.cells own sz 1 c)) (k : Sx.RowGe (c.row 0) row) : Sx.BkOk N μ hp g (.cells false sz 1 (.fn fun _ => row)) := by
 refine ⟨h.1, h.2.1, fun hr => ?_⟩
 obtain ⟨cur, ty, fz, p1, p2, p3, p4⟩ := h.2.2 (.inl (by omega))
 refine ⟨cur, ty, fz, p1, p2, fun h => (by cases h), fun i hi => ?_⟩
 obtain rfl : i = 0 := by omega
 exact Sx.RowOk.ge (p4 0 (by omega)) k
theorem own1 {N : Nat} {μ : Sx.MM} {hp : Array Obj} {g sz m : Nat} {c : Sx.Cont} {rows : Nat → List Sx.AV} (h : Sx.BkOk N μ hp g (.cells true sz m c)) (k : ∀ j, j < m → Sx.RowGe (c.row j) (rows j)) : Sx.BkOk N μ hp g (.cells true sz m (.fn rows)) := by
 refine ⟨h.1, h.2.1, fun hr => ?_⟩
 obtain ⟨cur, ty, fz, p1, p2, p3, p4⟩ := h.2.2 hr
 exact ⟨cur, ty, fz, p1, p2, p3, fun i hi => Sx.RowOk.ge (p4 i hi) (k i hi)⟩
def akK (l p f : Nat) (i : Nat) : Nat := if i = l then 0 else if i = p then 1 else if i = f then 2 else 5
theorem askS_ok : ∀ args v g g', askS args g = .done v g' → Sx.CallIs Try.prog 51 args v g g' := by
 intro args v g g' h
 unfold askS at h
 split at h
 case h_2 => exact (Sx.no_done h).elim
 rename_i s x lp fp
 obtain ⟨⟨ol, zl, ml, cl⟩, g1, a1, h1⟩ := Sx.done_of h
 clear h
 obtain ⟨t1, rfl⟩ := Sx.getC_done a1
 obtain ⟨⟨of', zf, mf, cf⟩, g2, a2, h2⟩ := Sx.done_of h1
 clear h1
 obtain ⟨t2, rfl⟩ := Sx.getC_done a2
 dsimp only at h2 t1 t2
 generalize r1 : cl.row 0 = R1 at h2
 generalize r2 : cf.row 0 = R2 at h2
 split at h2
 case h_2 => exact (Sx.no_done h2).elim
 rename_i pa s1 k s2 c s3 d z
 obtain ⟨⟨op, zp, mp, cp⟩, g3, a3, h3⟩ := Sx.done_of h2
 clear h2
 obtain ⟨t3, rfl⟩ := Sx.getC_done a3
 dsimp only at h3 t3
 generalize r3 : cp.row 0 = R3 at h3
 split at h3
 case h_2 => exact (Sx.no_done h3).elim
 rename_i s4 a n
 obtain ⟨⟨ob, zb, mb, cb⟩, g4, a4, h4⟩ := Sx.done_of h3
 clear h3
 obtain ⟨t4, rfl⟩ := Sx.getC_done a4
 dsimp only at h4 t4
 obtain ⟨_, g5, a5, h5⟩ := Sx.done_of h4
 clear h4
 obtain ⟨hq, rfl⟩ := Sx.okIf_done a5
 simp only [Bool.and_eq_true] at hq
 obtain ⟨⟨⟨⟨⟨⟨q1, q2⟩, q3⟩, q4⟩, ⟨⟨⟨⟨q5, q6⟩, q7⟩, q8⟩, q9⟩⟩, ⟨⟨⟨⟨⟨⟨⟨e1, e2⟩, e3⟩, e4⟩, e5⟩, e6⟩, e7⟩, e8⟩⟩, hn⟩ := hq
 have hn := Sx.nodup_of hn
 replace e1 := Nat.eq_of_beq_eq_true e1
 replace e2 := Nat.eq_of_beq_eq_true e2
 replace e3 := Nat.eq_of_beq_eq_true e3
 replace e4 := Nat.eq_of_beq_eq_true e4
 replace e5 := Nat.eq_of_beq_eq_true e5
 replace e6 := Nat.eq_of_beq_eq_true e6
 replace e7 := Nat.eq_of_beq_eq_true e7
 replace e8 := Nat.eq_of_beq_eq_true e8
 obtain rfl := Nat.eq_of_beq_eq_true q1
 obtain rfl := Nat.eq_of_beq_eq_true q2
 obtain rfl := Nat.eq_of_beq_eq_true q3
 obtain rfl := Nat.eq_of_beq_eq_true q4
 obtain rfl := Nat.eq_of_beq_eq_true q6
 obtain rfl := Nat.eq_of_beq_eq_true q7
 obtain rfl := Nat.eq_of_beq_eq_true q9
 subst q5 q8
 obtain ⟨_, g6, a6, h6⟩ := Sx.done_of h5
 clear h5
 have k6 := Sx.req_done a6
 obtain ⟨_, g7, a7, h7⟩ := Sx.done_of h6
 clear h6
 obtain ⟨H7, X7, C7⟩ := Sx.delB_done a7
 obtain ⟨N, g8, a8, h8⟩ := Sx.done_of h7
 clear h7
 cases a8
 obtain ⟨_, g9, a9, h9⟩ := Sx.done_of h8
 clear h8
 cases a9
 obtain ⟨rfl, rfl⟩ := Sx.ret_done h9
 have nx7 : g7.nx = g.nx := X7.trans k6.2.1
 have hH7 : g7.H = g.H.upd a.g none := by rw [H7, k6.1]
 have dl : lp.g ≠ pa.g ∧ lp.g ≠ fp.g ∧ lp.g ≠ a.g ∧ pa.g ≠ fp.g ∧ pa.g ≠ a.g ∧ fp.g ≠ a.g := by
  simp only [List.nodup_cons, List.mem_cons, List.not_mem_nil, or_false, not_or] at hn
  exact ⟨hn.1.1, hn.1.2.1, hn.1.2.2, hn.2.1.1, hn.2.1.2, hn.2.2.1⟩
 obtain ⟨d1, d2, d3, d4, d5, d6⟩ := dl
 have KP : akK lp.g pa.g fp.g pa.g = 1 := by unfold akK; rw [if_neg (Ne.symm d1), if_pos rfl]
 have LT : Sx.LtG g → lp.g < g.nx ∧ pa.g < g.nx ∧ fp.g < g.nx := fun l => ⟨l _ _ t1, l _ _ t3, l _ _ t2⟩
 have KN' : Sx.LtG g → akK lp.g pa.g fp.g g.nx = 5 := fun l => by
  obtain ⟨lt1, lt2, lt3⟩ := LT l
  unfold akK; rw [if_neg (by omega), if_neg (by omega), if_neg (by omega)]
 refine Sx.smallCallN (c := Sx.bodyOf Try.f51) Try.func51 (by kernel_rfl) (by kernel_rfl) (argsC := [.flt true x, .ptr ⟨false, 0, 0, 0⟩, .ptr ⟨false, 2, 0, 0⟩])
  (bl := [(0, .cells false 1 1 (.fn fun j => [.ptr ⟨false, 1, 0, 0⟩])), (1, .cells true 1 1 (.fn fun j => [.slc true true ⟨false, 3, 0, 0⟩ n])), (2, .cells false 4 1 (.fn fun j => [.int true .i64 k, .int true .u64 c, .int true .u64 d, .bool z])), (3, .cells true 1 n (.fn fun j => [.flt true (flo (cb.row j))]))])
  (bl' := [(pa.g, .cells true 1 1 (.fn fun _ => [.slc true true ⟨false, g.nx, 0, 0⟩ (n + 1)])), (g.nx, .cells true 1 (n + 1) (.fn fun j => bif decide (j < n) then [.flt true (flo (cb.row j))] else [.flt true x]))])
  (K0 := 4) (K' := 20) (p := _) (fun hc => k6.2.2 (by rw [← C7]; exact hc)) (fun i => Sx.nmL [lp.g, pa.g, fp.g, a.g] i) (akK lp.g pa.g fp.g) (nms := [5]) (by show g7.nx + 1 = _; rw [nx7]; rfl) (fun i => i = pa.g ∨ i = g.nx) ?_ ?_ ?_ ?_ ?_ ?_ ?_ ?_ (fun _ _ => rfl) (fun _ _ => trivial) ?_ ?_
 ·intro hp N μ cs hr
  simp only [Sx.Reps] at hr ⊢
  obtain ⟨c1, r, rfl, h1, c2, r', rfl, h2, c3, r'', rfl, h3, h4⟩ := hr
  exact ⟨c1, _, rfl, (by simp only [Sx.Rep] at h1 ⊢; exact h1), c2, _, rfl, rep_ptr0 h2 e1 e2 (by omega) rfl, c3, _, rfl, rep_ptr0 h3 e3 e4 (by omega) rfl, h4⟩
 ·intro hp i b hi
  obtain ⟨rfl, l2, l3, l4, l5⟩ := hp
  have hm := Sx.hpL_get hi
  simp only [List.mem_cons, List.not_mem_nil, or_false] at hm
  rcases hm with hm | hm | hm | hm
  ·cases hm
   exact ⟨by omega, fun i hi v hv => by rw [List.mem_singleton.1 hv]; rfl, _, t1, fun N μ hpp kk => view1 kk (by rw [r1]; exact ⟨ge_ptr rfl e5 e6, rfl, trivial⟩), fun h => (by cases h), fun μ j hr => .inl (by omega)⟩
  ·cases hm
   refine ⟨by omega, fun i hi v hv => by rw [List.mem_singleton.1 hv]; rfl, _, t3, fun N μ hpp kk => own1 kk fun j hj => ?_, fun h => rfl, fun μ j hr => .inl (by omega)⟩
   obtain rfl : j = 0 := by omega
   rw [r3]; exact ⟨Sx.AV.ge.hdr rfl e7 e8, rfl, trivial⟩
  ·cases hm
   exact ⟨by omega, fun i hi v hv => by simp only [Sx.Cont.row, List.mem_cons, List.not_mem_nil, or_false] at hv; rcases hv with rfl | rfl | rfl | rfl <;> rfl, _, t2, fun N μ hpp kk => view1 kk (by rw [r2]; exact ⟨Sx.AV.ge.int _ _ _ _, rfl, Sx.AV.ge.int _ _ _ _, rfl, Sx.AV.ge.int _ _ _ _, rfl, Sx.AV.ge.refl _, rfl, trivial⟩), fun h => (by cases h), fun μ j hr => .inl (by omega)⟩
  ·cases hm
   exact ⟨by omega, fun i hi v hv => by rw [List.mem_singleton.1 hv]; rfl, _, t4, fun N μ hpp kk => own1 kk fun j hj => (l5 j hj).ge, fun h => rfl, fun μ j hr => hr⟩
 ·intro hp i j b b' hi hj e
  have lt : ∀ {i b}, (Sx.hpL [(0, .cells false 1 1 (.fn fun j => [.ptr ⟨false, 1, 0, 0⟩])), (1, .cells true 1 1 (.fn fun j => [.slc true true ⟨false, 3, 0, 0⟩ n])), (2, .cells false 4 1 (.fn fun j => [.int true .i64 k, .int true .u64 c, .int true .u64 d, .bool z])), (3, .cells true 1 n (.fn fun j => [.flt true (flo (cb.row j))]))]).get i = some b → i < 4 := fun hb => by
   have hm := Sx.hpL_get hb
   simp only [List.mem_cons, List.not_mem_nil, or_false] at hm
   rcases hm with hm | hm | hm | hm <;> cases hm <;> omega
  exact Sx.nmL_inj hn (lt hi) (lt hj) e
 ·intro nm hm; rw [List.mem_singleton.1 hm]; omega
 ·exact List.nodup_cons.2 ⟨List.not_mem_nil, List.nodup_nil⟩
 ·intro hp l j hj
  have KN := KN' l
  obtain rfl : j = 0 := by simp at hj; exact hj
  show akK lp.g pa.g fp.g (g.nx + 0) = 5
  exact KN
 ·intro hp l i hi
  obtain ⟨lt1, lt2, lt3⟩ := LT l
  rcases hi with rfl | rfl
  ·refine ⟨?_, fun _ => ?_⟩
   ·show pa.g < g7.nx + 1; omega
   ·have e : akK lp.g pa.g fp.g pa.g = 1 := by unfold akK; rw [if_neg (Ne.symm d1), if_pos rfl]
    rw [e]; exact ⟨by omega, rfl⟩
  ·exact ⟨by show g.nx < g7.nx + 1; omega, fun h => absurd h (Nat.lt_irrefl _)⟩
 ·intro hp l
  have KN := KN' l
  obtain ⟨rfl, ⟨l2, l3, l4, l5⟩, ⟨l6, l7⟩, l8, l9⟩ := hp
  refine (faA 4 (by omega) k c d z x n (fun j => flo (cb.row j)) (by omega) (by omega) l2 l3 l4 l5 l6 l7).mono fun e fr' H' ⟨e1, e2, e3⟩ => ?_
  subst e1 e2 e3
  exact ⟨.inl rfl, _, _, Sx.res1 (t := 4) (by kernel_rfl) rfl, trivial, Sx.AV.ge.refl _, fun q hq => by
   simp only [List.mem_cons, List.not_mem_nil, or_false] at hq
   rcases hq with rfl | rfl
   ·refine ⟨_, (by rw [KP]; rfl : (Sx.hpL _).get _ = some (.cells true 1 1 (.fn _))), rfl, rfl, rfl, fun j hj => ?_⟩
    obtain rfl : j = 0 := by omega
    show [Sx.AV.slc true true ⟨false, 5, 0, 0⟩ (n + 1)] = [(Sx.AV.slc true true ⟨false, g.nx, 0, 0⟩ (n + 1)).ren _]
    simp only [Sx.AV.ren, Sx.AA.ren, KN]
   ·refine ⟨_, (by rw [KN]; rfl : (Sx.hpL _).get _ = some (.cells true 1 (n + 1) (.fn _))), rfl, rfl, rfl, fun j hj => ?_⟩
    show (bif decide (j < n) then [Sx.AV.flt true (flo (cb.row j))] else [Sx.AV.flt true x]) = Sx.rens _ (bif decide (j < n) then [Sx.AV.flt true (flo (cb.row j))] else [Sx.AV.flt true x])
    cases decide (j < n) <;> rfl⟩
 ·intro hp l q hq
  obtain ⟨lt1, lt2, lt3⟩ := LT l
  simp only [List.mem_cons, List.not_mem_nil, or_false] at hq
  rcases hq with rfl | rfl
  ·refine ⟨.inl rfl, fun i hi o v hv => ?_, fun i hi v hv => ?_, fun _ => ⟨.cells true 1 1 (.fn fun j => [.slc true true ⟨false, 3, 0, 0⟩ n]), by rw [KP]; rfl, rfl, fun μ m h => h⟩, fun h => absurd lt2 (by dsimp only at h; omega)⟩
   ·match o, hv with
    | 0, hv => cases hv; exact .inr rfl
   ·rw [List.mem_singleton.1 hv]; show Nat.blt g.nx (g7.nx + 1) = true; exact Nat.ble_eq_true_of_le (by omega)
  ·refine ⟨.inr rfl, fun i hi o v hv => ?_, fun i hi v hv => ?_, fun h => absurd h (Nat.lt_irrefl _), fun _ => rfl⟩
   ·have hv : (bif decide (i < n) then [Sx.AV.flt true (flo (cb.row i))] else [Sx.AV.flt true x])[o]? = some v := hv
    cases hd : decide (i < n) <;> rw [hd] at hv <;> match o, hv with
     | 0, hv => cases hv; trivial
   ·have hv : v ∈ (bif decide (i < n) then [Sx.AV.flt true (flo (cb.row i))] else [Sx.AV.flt true x]) := hv
    cases hd : decide (i < n) <;> rw [hd] at hv <;> (rw [List.mem_singleton.1 hv]; rfl)
 ·intro hp l i b hi
  have hi' : ((g7.H.upd g7.nx (some (Sx.ABk.cells true 1 (n + 1) (.fn fun j => bif decide (j < n) then [.flt true (flo (cb.row j))] else [.flt true x])))).upd pa.g (some (.cells true 1 1 (.fn fun _ => [.slc true true ⟨false, g7.nx, 0, 0⟩ (n + 1)])))).get i = some b := hi
  rw [Sx.T.get_upd, nx7] at hi'
  split at hi'
  ·rename_i e
   cases hi'
   rw [e]
   exact .inr (List.mem_cons_self)
  ·rename_i c1
   rw [Sx.T.get_upd] at hi'
   split at hi'
   ·rename_i e
    cases hi'
    rw [e]
    exact .inr (List.mem_cons_of_mem _ List.mem_cons_self)
   ·rw [hH7, Sx.T.get_upd] at hi'
    split at hi'
    ·cases hi'
    ·rename_i c2 c3
     refine .inl ⟨hi', fun j bj hj ho => ?_⟩
     have hm := Sx.hpL_get hj
     simp only [List.mem_cons, List.not_mem_nil, or_false] at hm
     rcases hm with hm | hm | hm | hm
     ·cases hm; cases ho
     ·cases hm; exact fun e => c1 e.symm
     ·cases hm; cases ho
     ·cases hm; exact fun e => c3 e.symm
noncomputable def gamE : Sx.Known := Sx.kc 11 Sx.ofBits (Sx.kc 48 Sx.toBits (Sx.kc 30 pickS (Sx.kc 43 finS (Sx.kc 46 finS (Sx.kc 24 placeS (Sx.kc 66 rplaceS (Sx.kc 32 atS (Sx.kc 67 ratS (Sx.kc 13 sameS (Sx.kc 10 midTS (Sx.kc 47 rmidTS (Sx.kc 50 aptTS (Sx.kc 68 raptTS (Sx.kc 57 unlS (Sx.kc 19 fvS (Sx.kc 51 askS (Sx.kn)))))))))))))))))
theorem gamE_ok : Sx.KnownOk Try.prog gamE := Sx.kc_ok ((Sx.ofBits_is Try.prog).callIs Try.func11 (by kernel_rfl) (by kernel_rfl) (by kernel_rfl) (by kernel_rfl)) (Sx.kc_ok ((Sx.toBits_is Try.prog).callIs Try.func48 (by kernel_rfl) (by kernel_rfl) (by kernel_rfl) (by kernel_rfl)) (Sx.kc_ok pickS_ok (Sx.kc_ok fin43_ok (Sx.kc_ok fin46_ok (Sx.kc_ok place24_ok (Sx.kc_ok rplace66_ok (Sx.kc_ok at32_ok (Sx.kc_ok rat67_ok (Sx.kc_ok same13_ok (Sx.kc_ok midTS_ok (Sx.kc_ok rmidTS_ok (Sx.kc_ok aptTS_ok (Sx.kc_ok raptTS_ok (Sx.kc_ok unlS_ok (Sx.kc_ok fvS_ok (Sx.kc_ok askS_ok (Sx.kn_ok)))))))))))))))))
theorem gamE_tch : Sx.KnownT gamE := Sx.kc_tch Sx.Tch.ofBits (Sx.kc_tch Sx.Tch.toBits (Sx.kc_tch pickS_tch (Sx.kc_tch finS_tch (Sx.kc_tch finS_tch (Sx.kc_tch placeS_tch (Sx.kc_tch rplaceS_tch (Sx.kc_tch atS_tch (Sx.kc_tch ratS_tch (Sx.kc_tch sameS_tch (Sx.kc_tch midTS_tch (Sx.kc_tch rmidTS_tch (Sx.kc_tch aptTS_tch (Sx.kc_tch raptTS_tch (Sx.kc_tch unlS_tch (Sx.kc_tch fvS_tch (Sx.kc_tch askS_tch (Sx.kn_tch)))))))))))))))))
noncomputable def callE : Sx.Calls' := Sx.runN Try.prog gamE (Sx.regionC Try.prog) 1000 50
theorem callE_ok : Sx.CallOk Try.prog callE := Sx.engineC gamE_ok gamE_tch (by kernel_rfl) (by kernel_rfl) 1000 50
theorem callE_reg (n : Nat) : Sx.RegionOk Try.prog (Sx.regionC Try.prog callE n) n := Sx.runN_regionC gamE_ok gamE_tch (by kernel_rfl) (by kernel_rfl) 1000 50 n
noncomputable abbrev piececallE (f : Func) (c : Code) (fr : Sx.Fr) (H : Sx.T Sx.ABk) (K : Nat) (path : List Bool) : Sx.Res (Sx.Ex × Sx.Fr) :=
 Sx.codeA Try.prog callE (Sx.regionC Try.prog callE f.ntmps) Sx.noLoops f.ntmps 1000 c fr ⟨H, K, [], path, True⟩

theorem sfA_r0 (la lb : Nat) (ra rb : Nat → Nat) : Sx.PieceN 2 (Sx.Ex.normal) [(0, .slc true false ⟨false, 0, 0, 0⟩ la), (1, .slc true false ⟨false, 1, 0, 0⟩ lb)] [(0, .cells false 1 la (.fn fun j => [.flt true (ra j)])), (1, .cells false 1 lb (.fn fun j => [.flt true (rb j)]))] (piececallE Try.f21 (Sx.nav [0] (Sx.bodyOf Try.f21)) (Sx.frameOf [Sx.slcV 0 la, Sx.slcV 1 lb] 0 .e) (Sx.hpL [(0, .cells false 1 la (.fn fun j => [.flt true (ra j)])), (1, .cells false 1 lb (.fn fun j => [.flt true (rb j)]))]) 2 []) := Sx.eqn (q := True) (by kernel_rfl) trivial
theorem sfA (B : Nat) (hB : B ≤ 2) (la lb : Nat) (ra rb : Nat → Nat) : Sx.GoesB Try.prog (Sx.nav [0] (Sx.bodyOf Try.f21)) Try.f21.ntmps B 2 2 (Sx.frameOf [Sx.slcV 0 la, Sx.slcV 1 lb] 0 .e) (Sx.hpL [(0, .cells false 1 la (.fn fun j => [.flt true (ra j)])), (1, .cells false 1 lb (.fn fun j => [.flt true (rb j)]))]) fun e fr' H' => (e = .normal ∧ fr' = Sx.frL [(0, .slc true false ⟨false, 0, 0, 0⟩ la), (1, .slc true false ⟨false, 1, 0, 0⟩ lb)] ∧ H' = Sx.hpL [(0, .cells false 1 la (.fn fun j => [.flt true (ra j)])), (1, .cells false 1 lb (.fn fun j => [.flt true (rb j)]))]) := by
 exact (Sx.GoesB.runN callE_ok (callE_reg _) (Sx.LoopsIn.none _ _ _) (sfA_r0 la lb ra rb) hB).mono fun e fr' H' h => h
theorem sfC_r0 (la lb : Nat) (ra rb : Nat → Nat) (c0 : (!decide ((↑la : Int) = (↑lb : Int))) = false) : Sx.PieceN 2 (Sx.Ex.normal) [(0, .slc true false ⟨false, 0, 0, 0⟩ la), (1, .slc true false ⟨false, 1, 0, 0⟩ lb)] [(0, .cells false 1 la (.fn fun j => [.flt true (ra j)])), (1, .cells false 1 lb (.fn fun j => [.flt true (rb j)]))] (piececallE Try.f21 (Sx.nav [1,0] (Sx.bodyOf Try.f21)) (Sx.frL [(0, Sx.slcV 0 la), (1, Sx.slcV 1 lb)]) (Sx.hpL [(0, .cells false 1 la (.fn fun j => [.flt true (ra j)])), (1, .cells false 1 lb (.fn fun j => [.flt true (rb j)]))]) 2 [false]) := Sx.eqn (q := (True ∧ ((!decide ((↑la : Int) = (↑lb : Int))) = false))) (by kernel_rfl) ⟨trivial, c0⟩
theorem sfC_r1 (la lb : Nat) (ra rb : Nat → Nat) (c0 : (!decide ((↑la : Int) = (↑lb : Int))) = true) : Sx.PieceN 2 (Sx.Ex.ret) [(0, .slc true false ⟨false, 0, 0, 0⟩ la), (1, .slc true false ⟨false, 1, 0, 0⟩ lb), (4, .bool false)] [(0, .cells false 1 la (.fn fun j => [.flt true (ra j)])), (1, .cells false 1 lb (.fn fun j => [.flt true (rb j)]))] (piececallE Try.f21 (Sx.nav [1,0] (Sx.bodyOf Try.f21)) (Sx.frL [(0, Sx.slcV 0 la), (1, Sx.slcV 1 lb)]) (Sx.hpL [(0, .cells false 1 la (.fn fun j => [.flt true (ra j)])), (1, .cells false 1 lb (.fn fun j => [.flt true (rb j)]))]) 2 [true]) := Sx.eqn (q := (True ∧ ((!decide ((↑la : Int) = (↑lb : Int))) = true))) (by kernel_rfl) ⟨trivial, c0⟩
theorem sfC (B : Nat) (hB : B ≤ 2) (la lb : Nat) (ra rb : Nat → Nat) : Sx.GoesB Try.prog (Sx.nav [1,0] (Sx.bodyOf Try.f21)) Try.f21.ntmps B 2 2 (Sx.frL [(0, Sx.slcV 0 la), (1, Sx.slcV 1 lb)]) (Sx.hpL [(0, .cells false 1 la (.fn fun j => [.flt true (ra j)])), (1, .cells false 1 lb (.fn fun j => [.flt true (rb j)]))]) fun e fr' H' => (cond (decide ((↑la : Int) = (↑lb : Int))) (e = .normal ∧ fr' = Sx.frL [(0, .slc true false ⟨false, 0, 0, 0⟩ la), (1, .slc true false ⟨false, 1, 0, 0⟩ lb)] ∧ H' = Sx.hpL [(0, .cells false 1 la (.fn fun j => [.flt true (ra j)])), (1, .cells false 1 lb (.fn fun j => [.flt true (rb j)]))]) (e = .ret ∧ fr' = Sx.frL [(0, .slc true false ⟨false, 0, 0, 0⟩ la), (1, .slc true false ⟨false, 1, 0, 0⟩ lb), (4, .bool false)] ∧ H' = Sx.hpL [(0, .cells false 1 la (.fn fun j => [.flt true (ra j)])), (1, .cells false 1 lb (.fn fun j => [.flt true (rb j)]))])) := by
 cases t0 : decide ((↑la : Int) = (↑lb : Int)) with
 | true =>
  exact (Sx.GoesB.runN callE_ok (callE_reg _) (Sx.LoopsIn.none _ _ _) (sfC_r0 la lb ra rb (by rw [t0]; rfl)) hB).mono fun e fr' H' h => by first | (simp only [t0, cond_true, cond_false]; exact h) | (simp only [t0, cond_true, cond_false] at h ⊢; exact h)
 | false =>
  exact (Sx.GoesB.runN callE_ok (callE_reg _) (Sx.LoopsIn.none _ _ _) (sfC_r1 la lb ra rb (by rw [t0]; rfl)) hB).mono fun e fr' H' h => by first | (simp only [t0, cond_true, cond_false]; exact h) | (simp only [t0, cond_true, cond_false] at h ⊢; exact h)
theorem sfD_r0 (la lb : Nat) (ra rb : Nat → Nat) : Sx.PieceN 2 (Sx.Ex.normal) [(0, .slc true false ⟨false, 0, 0, 0⟩ la), (1, .slc true false ⟨false, 1, 0, 0⟩ lb), (5, .int false .i64 0)] [(0, .cells false 1 la (.fn fun j => [.flt true (ra j)])), (1, .cells false 1 lb (.fn fun j => [.flt true (rb j)]))] (piececallE Try.f21 (Sx.nav [1,1,0,0] (Sx.bodyOf Try.f21)) (Sx.frL [(0, Sx.slcV 0 la), (1, Sx.slcV 1 lb)]) (Sx.hpL [(0, .cells false 1 la (.fn fun j => [.flt true (ra j)])), (1, .cells false 1 lb (.fn fun j => [.flt true (rb j)]))]) 2 []) := Sx.eqn (q := True) (by kernel_rfl) trivial
theorem sfD (B : Nat) (hB : B ≤ 2) (la lb : Nat) (ra rb : Nat → Nat) : Sx.GoesB Try.prog (Sx.nav [1,1,0,0] (Sx.bodyOf Try.f21)) Try.f21.ntmps B 2 2 (Sx.frL [(0, Sx.slcV 0 la), (1, Sx.slcV 1 lb)]) (Sx.hpL [(0, .cells false 1 la (.fn fun j => [.flt true (ra j)])), (1, .cells false 1 lb (.fn fun j => [.flt true (rb j)]))]) fun e fr' H' => (e = .normal ∧ fr' = Sx.frL [(0, .slc true false ⟨false, 0, 0, 0⟩ la), (1, .slc true false ⟨false, 1, 0, 0⟩ lb), (5, .int false .i64 0)] ∧ H' = Sx.hpL [(0, .cells false 1 la (.fn fun j => [.flt true (ra j)])), (1, .cells false 1 lb (.fn fun j => [.flt true (rb j)]))]) := by
 exact (Sx.GoesB.runN callE_ok (callE_reg _) (Sx.LoopsIn.none _ _ _) (sfD_r0 la lb ra rb) hB).mono fun e fr' H' h => h
theorem sfB_r0 (la lb i : Nat) (ra rb : Nat → Nat) (c0 : decide ((↑i : Int) < (↑la : Int)) = true) (c1 : (0 : Int) ≤ (↑i : Int)) (c2 : (↑i : Int) < (↑la : Int)) (c3 : (0 : Nat) + i < la) (c4 : (↑i : Int) < (↑lb : Int)) (c5 : (0 : Nat) + i < lb) (c6 : (!Nat.beq (ra ((0 : Nat) + i)) (rb ((0 : Nat) + i))) = false) (c7 : (-9223372036854775808 : Int) ≤ (↑i : Int) + (1 : Int)) (c8 : (↑i : Int) + (1 : Int) ≤ (9223372036854775807 : Int)) : Sx.PieceN 2 (Sx.Ex.normal) [(0, .slc true false ⟨false, 0, 0, 0⟩ la), (1, .slc true false ⟨false, 1, 0, 0⟩ lb), (5, .int true .i64 ((↑i : Int) + (1 : Int)))] [(0, .cells false 1 la (.fn fun j => [.flt true (ra j)])), (1, .cells false 1 lb (.fn fun j => [.flt true (rb j)]))] (piececallE Try.f21 (Sx.nav [1,1,0,1,0,0] (Sx.bodyOf Try.f21)) (Sx.frL [(0, Sx.slcV 0 la), (1, Sx.slcV 1 lb), (5, .int true .i64 i)]) (Sx.hpL [(0, .cells false 1 la (.fn fun j => [.flt true (ra j)])), (1, .cells false 1 lb (.fn fun j => [.flt true (rb j)]))]) 2 [true, false]) := Sx.eqn (q := (((((((True ∧ (decide ((↑i : Int) < (↑la : Int)) = true)) ∧ (((0 : Int) ≤ (↑i : Int)) ∧ ((↑i : Int) < (↑la : Int)))) ∧ ((0 : Nat) + i < la)) ∧ (((0 : Int) ≤ (↑i : Int)) ∧ ((↑i : Int) < (↑lb : Int)))) ∧ ((0 : Nat) + i < lb)) ∧ ((!Nat.beq (ra ((0 : Nat) + i)) (rb ((0 : Nat) + i))) = false)) ∧ (((-9223372036854775808 : Int) ≤ (↑i : Int) + (1 : Int)) ∧ ((↑i : Int) + (1 : Int) ≤ (9223372036854775807 : Int))))) (by kernel_rfl) ⟨⟨⟨⟨⟨⟨⟨trivial, c0⟩, ⟨c1, c2⟩⟩, c3⟩, ⟨c1, c4⟩⟩, c5⟩, c6⟩, ⟨c7, c8⟩⟩
theorem sfB_r1 (la lb i : Nat) (ra rb : Nat → Nat) (c0 : decide ((↑i : Int) < (↑la : Int)) = true) (c1 : (0 : Int) ≤ (↑i : Int)) (c2 : (↑i : Int) < (↑la : Int)) (c3 : (0 : Nat) + i < la) (c4 : (↑i : Int) < (↑lb : Int)) (c5 : (0 : Nat) + i < lb) (c6 : (!Nat.beq (ra ((0 : Nat) + i)) (rb ((0 : Nat) + i))) = true) : Sx.PieceN 2 (Sx.Ex.ret) [(0, .slc true false ⟨false, 0, 0, 0⟩ la), (1, .slc true false ⟨false, 1, 0, 0⟩ lb), (4, .bool false), (5, .int true .i64 (↑i : Int))] [(0, .cells false 1 la (.fn fun j => [.flt true (ra j)])), (1, .cells false 1 lb (.fn fun j => [.flt true (rb j)]))] (piececallE Try.f21 (Sx.nav [1,1,0,1,0,0] (Sx.bodyOf Try.f21)) (Sx.frL [(0, Sx.slcV 0 la), (1, Sx.slcV 1 lb), (5, .int true .i64 i)]) (Sx.hpL [(0, .cells false 1 la (.fn fun j => [.flt true (ra j)])), (1, .cells false 1 lb (.fn fun j => [.flt true (rb j)]))]) 2 [true, true]) := Sx.eqn (q := ((((((True ∧ (decide ((↑i : Int) < (↑la : Int)) = true)) ∧ (((0 : Int) ≤ (↑i : Int)) ∧ ((↑i : Int) < (↑la : Int)))) ∧ ((0 : Nat) + i < la)) ∧ (((0 : Int) ≤ (↑i : Int)) ∧ ((↑i : Int) < (↑lb : Int)))) ∧ ((0 : Nat) + i < lb)) ∧ ((!Nat.beq (ra ((0 : Nat) + i)) (rb ((0 : Nat) + i))) = true))) (by kernel_rfl) ⟨⟨⟨⟨⟨⟨trivial, c0⟩, ⟨c1, c2⟩⟩, c3⟩, ⟨c1, c4⟩⟩, c5⟩, c6⟩
theorem sfB_r2 (la lb i : Nat) (ra rb : Nat → Nat) (c0 : decide ((↑i : Int) < (↑la : Int)) = false) : Sx.PieceN 2 (Sx.Ex.exit (0 : Nat)) [(0, .slc true false ⟨false, 0, 0, 0⟩ la), (1, .slc true false ⟨false, 1, 0, 0⟩ lb), (5, .int true .i64 (↑i : Int))] [(0, .cells false 1 la (.fn fun j => [.flt true (ra j)])), (1, .cells false 1 lb (.fn fun j => [.flt true (rb j)]))] (piececallE Try.f21 (Sx.nav [1,1,0,1,0,0] (Sx.bodyOf Try.f21)) (Sx.frL [(0, Sx.slcV 0 la), (1, Sx.slcV 1 lb), (5, .int true .i64 i)]) (Sx.hpL [(0, .cells false 1 la (.fn fun j => [.flt true (ra j)])), (1, .cells false 1 lb (.fn fun j => [.flt true (rb j)]))]) 2 [false]) := Sx.eqn (q := (True ∧ (decide ((↑i : Int) < (↑la : Int)) = false))) (by kernel_rfl) ⟨trivial, c0⟩
theorem sfB (B : Nat) (hB : B ≤ 2) (la lb i : Nat) (ra rb : Nat → Nat) (x0 : ((decide ((↑i : Int) < (↑la : Int))) = true → ((↑i : Int) < (↑lb : Int)))) (x1 : ((decide ((↑i : Int) < (↑la : Int))) = true → ((0 : Nat) + i < lb))) (x2 : ((decide ((↑i : Int) < (↑la : Int))) = true → ((Nat.beq (ra ((0 : Nat) + i)) (rb ((0 : Nat) + i))) = true → ((↑i : Int) + (1 : Int) ≤ (9223372036854775807 : Int))))) : Sx.GoesB Try.prog (Sx.nav [1,1,0,1,0,0] (Sx.bodyOf Try.f21)) Try.f21.ntmps B 2 2 (Sx.frL [(0, Sx.slcV 0 la), (1, Sx.slcV 1 lb), (5, .int true .i64 i)]) (Sx.hpL [(0, .cells false 1 la (.fn fun j => [.flt true (ra j)])), (1, .cells false 1 lb (.fn fun j => [.flt true (rb j)]))]) fun e fr' H' => (cond (decide ((↑i : Int) < (↑la : Int))) (cond (Nat.beq (ra ((0 : Nat) + i)) (rb ((0 : Nat) + i))) (e = .normal ∧ fr' = Sx.frL [(0, .slc true false ⟨false, 0, 0, 0⟩ la), (1, .slc true false ⟨false, 1, 0, 0⟩ lb), (5, .int true .i64 ((↑i : Int) + (1 : Int)))] ∧ H' = Sx.hpL [(0, .cells false 1 la (.fn fun j => [.flt true (ra j)])), (1, .cells false 1 lb (.fn fun j => [.flt true (rb j)]))]) (e = .ret ∧ fr' = Sx.frL [(0, .slc true false ⟨false, 0, 0, 0⟩ la), (1, .slc true false ⟨false, 1, 0, 0⟩ lb), (4, .bool false), (5, .int true .i64 (↑i : Int))] ∧ H' = Sx.hpL [(0, .cells false 1 la (.fn fun j => [.flt true (ra j)])), (1, .cells false 1 lb (.fn fun j => [.flt true (rb j)]))])) (e = .exit 0 ∧ fr' = Sx.frL [(0, .slc true false ⟨false, 0, 0, 0⟩ la), (1, .slc true false ⟨false, 1, 0, 0⟩ lb), (5, .int true .i64 (↑i : Int))] ∧ H' = Sx.hpL [(0, .cells false 1 la (.fn fun j => [.flt true (ra j)])), (1, .cells false 1 lb (.fn fun j => [.flt true (rb j)]))])) := by
 cases t0 : decide ((↑i : Int) < (↑la : Int)) with
 | true =>
  cases t1 : Nat.beq (ra ((0 : Nat) + i)) (rb ((0 : Nat) + i)) with
  | true =>
   exact (Sx.GoesB.runN callE_ok (callE_reg _) (Sx.LoopsIn.none _ _ _) (sfB_r0 la lb i ra rb t0 (by first | decide | ((try simp only [decide_eq_true_eq, decide_eq_false_iff_not] at t0 t1); (try simp only [List.length_take, List.length_drop]); omega)) (by first | decide | ((try simp only [decide_eq_true_eq, decide_eq_false_iff_not] at t0 t1); (try simp only [List.length_take, List.length_drop]); omega)) (by first | decide | ((try simp only [decide_eq_true_eq, decide_eq_false_iff_not] at t0 t1); (try simp only [List.length_take, List.length_drop]); omega)) (x0 t0) (x1 t0) (by rw [t1]; rfl) (by first | decide | ((try simp only [decide_eq_true_eq, decide_eq_false_iff_not] at t0 t1); (try simp only [List.length_take, List.length_drop]); omega)) (x2 t0 t1)) hB).mono fun e fr' H' h => by first | (simp only [t0, t1, cond_true, cond_false]; exact h) | (simp only [t0, t1, cond_true, cond_false] at h ⊢; exact h)
  | false =>
   exact (Sx.GoesB.runN callE_ok (callE_reg _) (Sx.LoopsIn.none _ _ _) (sfB_r1 la lb i ra rb t0 (by first | decide | ((try simp only [decide_eq_true_eq, decide_eq_false_iff_not] at t0 t1); (try simp only [List.length_take, List.length_drop]); omega)) (by first | decide | ((try simp only [decide_eq_true_eq, decide_eq_false_iff_not] at t0 t1); (try simp only [List.length_take, List.length_drop]); omega)) (by first | decide | ((try simp only [decide_eq_true_eq, decide_eq_false_iff_not] at t0 t1); (try simp only [List.length_take, List.length_drop]); omega)) (x0 t0) (x1 t0) (by rw [t1]; rfl)) hB).mono fun e fr' H' h => by first | (simp only [t0, t1, cond_true, cond_false]; exact h) | (simp only [t0, t1, cond_true, cond_false] at h ⊢; exact h)
 | false =>
  exact (Sx.GoesB.runN callE_ok (callE_reg _) (Sx.LoopsIn.none _ _ _) (sfB_r2 la lb i ra rb t0) hB).mono fun e fr' H' h => by first | (simp only [t0, cond_true, cond_false]; exact h) | (simp only [t0, cond_true, cond_false] at h ⊢; exact h)
theorem sfZ_r0  : Sx.PieceN 2 (Sx.Ex.ret) [(4, .bool true)] [] (piececallE Try.f21 (Sx.nav [1,1,1] (Sx.bodyOf Try.f21)) (Sx.frL []) (Sx.hpL []) 2 []) := Sx.eqn (q := True) (by kernel_rfl) trivial
theorem sfZ (B : Nat) (hB : B ≤ 2)  : Sx.GoesB Try.prog (Sx.nav [1,1,1] (Sx.bodyOf Try.f21)) Try.f21.ntmps B 2 2 (Sx.frL []) (Sx.hpL []) fun e fr' H' => (e = .ret ∧ fr' = Sx.frL [(4, .bool true)] ∧ H' = Sx.hpL []) := by
 exact (Sx.GoesB.runN callE_ok (callE_reg _) (Sx.LoopsIn.none _ _ _) (sfZ_r0 ) hB).mono fun e fr' H' h => h
def sfI (la lb : Nat) (ra rb : Nat → Nat) (k : Nat) (fr : Sx.Fr) (H : Sx.T Sx.ABk) : Prop :=
 ∃ i : Nat, k = la - i ∧ i ≤ la ∧ (∀ j, j < i → ra j = rb j) ∧ fr = Sx.frL [(0, Sx.slcV 0 la), (1, Sx.slcV 1 lb), (5, .int true .i64 i)] ∧ H = Sx.hpL [(0, .cells false 1 la (.fn fun j => [.flt true (ra j)])), (1, .cells false 1 lb (.fn fun j => [.flt true (rb j)]))]
def sfP (la lb : Nat) (ra rb : Nat → Nat) : Sx.Po := fun e fr H => (e = .exit 0 ∧ ∀ j, j < la → ra j = rb j) ∨ (e = .ret ∧ ¬ (∀ j, j < la → ra j = rb j) ∧ fr.get 4 = some (.bool false))
theorem sf_body (la lb : Nat) (ra rb : Nat → Nat) (hl : la = lb) (hm : la ≤ 9223372036854775807) (k : Nat) (fr : Sx.Fr) (H : Sx.T Sx.ABk) (hI : sfI la lb ra rb k fr H) :
  Sx.GoesB Try.prog (Sx.nav [1,1,0,1,0,0] (Sx.bodyOf Try.f21)) Try.f21.ntmps 2 2 2 fr H fun e fr' H' => match e with
   | .normal => ∃ k', k' < k ∧ sfI la lb ra rb k' fr' H'
   | e => sfP la lb ra rb e fr' H' := by
 obtain ⟨i, rfl, hi, hs, rfl, rfl⟩ := hI
 have hx : decide ((i : Int) < (la : Int)) = true → i < la := fun t => by have := of_decide_eq_true t; omega
 have hB := sfB 2 (by omega) la lb i ra rb (fun t => by have := hx t; omega) (fun t => by have := hx t; omega) (fun t _ => by have := hx t; omega)
 simp only [Nat.zero_add] at hB
 refine hB.mono fun e fr' H' h => ?_
 refine Sx.cond_elim h (fun t h => ?_) (fun t h => ?_)
 ·have hlt := hx t
  refine Sx.cond_elim h (fun t1 h => ?_) (fun t1 h => ?_)
  ·obtain ⟨rfl, rfl, rfl⟩ := h
   refine ⟨la - (i + 1), by omega, i + 1, rfl, by omega, fun j hj => ?_, rfl, rfl⟩
   by_cases hji : j < i
   ·exact hs j hji
   ·have e : j = i := by omega
    subst e
    exact Nat.eq_of_beq_eq_true t1
  ·obtain ⟨rfl, rfl, rfl⟩ := h
   exact .inr ⟨rfl, fun hh => absurd (hh i hlt) (fun e => by rw [e] at t1; rw [Nat.beq_refl] at t1; cases t1), rfl⟩
 ·obtain ⟨rfl, rfl, rfl⟩ := h
  exact .inl ⟨rfl, fun j hj => hs j (by have := of_decide_eq_false t; omega)⟩
theorem sf_is : (Sx.bodyOf Try.f21) = .seq (Sx.nav [0] (Sx.bodyOf Try.f21)) (.seq (Sx.nav [1,0] (Sx.bodyOf Try.f21)) (.seq (.seq (Sx.nav [1,1,0,0] (Sx.bodyOf Try.f21)) (.block 0 (.loop (Sx.nav [1,1,0,1,0,0] (Sx.bodyOf Try.f21))))) (Sx.nav [1,1,1] (Sx.bodyOf Try.f21)))) := by kernel_rfl
theorem sf_goes (la lb : Nat) (ra rb : Nat → Nat) (hm : la ≤ 9223372036854775807) :
  Sx.GoesB Try.prog (Sx.bodyOf Try.f21) Try.f21.ntmps 2 2 2 (Sx.frameOf [Sx.slcV 0 la, Sx.slcV 1 lb] 0 .e) (Sx.hpL [(0, .cells false 1 la (.fn fun j => [.flt true (ra j)])), (1, .cells false 1 lb (.fn fun j => [.flt true (rb j)]))]) fun e fr' H' => (e = .ret ∨ e = .normal) ∧ fr'.get 4 = some (.bool (Sx.cd (la = lb ∧ ∀ j, j < la → ra j = rb j))) := by
 rw [sf_is]
 refine Sx.GoesB.seq (K1 := 2) (by omega) ((sfA 2 (by omega) la lb ra rb).mono fun e fr' H' ⟨e1, e2, e3⟩ => ?_)
 subst e1 e2 e3
 refine Sx.GoesB.seq (K1 := 2) (by omega) ((sfC 2 (by omega) la lb ra rb).mono fun e fr' H' h => ?_)
 refine Sx.cond_elim h (fun t h => ?_) (fun t h => ?_)
 case refine_2 =>
  obtain ⟨rfl, rfl, rfl⟩ := h
  exact ⟨.inl rfl, by rw [Sx.cd_false (fun hh => by have h1 := hh.1; subst h1; simp at t)]; rfl⟩
 obtain ⟨rfl, rfl, rfl⟩ := h
 have hl : la = lb := by have := of_decide_eq_true t; omega
 refine Sx.GoesB.seq (K1 := 2) (by omega) (Sx.GoesB.seq (K1 := 2) (by omega) (Sx.GoesB.weakL (fl := [(0, Sx.slcV 0 la), (1, Sx.slcV 1 lb)]) (bl := [(0, .cells false 1 la (.fn fun j => [.flt true (ra j)])), (1, .cells false 1 lb (.fn fun j => [.flt true (rb j)]))]) ⟨⟨_, rfl, Sx.AV.ge.refl _⟩, ⟨_, rfl, Sx.AV.ge.refl _⟩, trivial⟩ ⟨⟨_, rfl, Sx.SameC.refl _⟩, ⟨_, rfl, Sx.SameC.refl _⟩, trivial⟩ ((sfD 2 (by omega) la lb ra rb).mono fun e fr' H' ⟨e1, e2, e3⟩ => ?_)))
 subst e1 e2 e3
 refine Sx.GoesB.weakL (fl := [(0, Sx.slcV 0 la), (1, Sx.slcV 1 lb), (5, .int true .i64 (0 : Nat))]) (bl := [(0, .cells false 1 la (.fn fun j => [.flt true (ra j)])), (1, .cells false 1 lb (.fn fun j => [.flt true (rb j)]))]) ⟨⟨_, rfl, Sx.AV.ge.refl _⟩, ⟨_, rfl, Sx.AV.ge.refl _⟩, ⟨_, rfl, Sx.AV.ge.int _ _ _ _⟩, trivial⟩ ⟨⟨_, rfl, Sx.SameC.refl _⟩, ⟨_, rfl, Sx.SameC.refl _⟩, trivial⟩ ?_
 refine Sx.GoesB.block ((Sx.GoesB.loop (sfI la lb ra rb) (Post := sfP la lb ra rb) (sf_body la lb ra rb hl hm) _ _ _ ⟨0, rfl, by omega, fun j hj => by omega, rfl, rfl⟩).mono fun e fr' H' hp => ?_)
 rcases hp with ⟨rfl, h1⟩ | ⟨rfl, h1, h2⟩
 ·simp only [if_true]
  refine Sx.GoesB.weakL (fl := []) (bl := []) trivial trivial ((sfZ 2 (by omega)).mono fun e fr' H' ⟨e1, e2, e3⟩ => ?_)
  subst e1 e2 e3
  exact ⟨.inl rfl, by rw [Sx.cd_true ⟨hl, h1⟩]; rfl⟩
 ·exact ⟨.inl rfl, by rw [Sx.cd_false (fun hh => h1 hh.2)]; exact h2⟩
noncomputable def sameFS : List Sx.AV → Sx.M Sx.AV
 | [x, y] => (Sx.rd 1 x fun len rows => len ≤ 9223372036854775807 ∧ ∀ j, j < len → FRow (rows j)).andThen fun a => (Sx.rd 1 y fun len rows => ∀ j, j < len → FRow (rows j)).andThen fun b => Sx.M.ret (.sbool (Sx.cd (a.1 = b.1 ∧ ∀ j, j < a.1 → flo (a.2 j) = flo (b.2 j))))
 | _ => Sx.M.no
theorem sameFS_ok : ∀ args v g g', sameFS args g = .done v g' → Sx.CallIs Try.prog 21 args v g g' := by
 intro args v g g' h
 unfold sameFS at h
 split at h
 ·rename_i x y
  obtain ⟨⟨la, ra⟩, g1, a1, h1⟩ := Sx.done_of h
  obtain ⟨⟨lb, rb⟩, g2, a2, h2⟩ := Sx.done_of h1
  obtain ⟨rfl, rfl⟩ := Sx.ret_done h2
  obtain ⟨q1, k1, f1⟩ := Sx.rd_done a1 (by omega)
  obtain ⟨q2, k2, f2⟩ := Sx.rd_done a2 (by omega)
  have k := k1.trans k2
  have ok2 : q1 ∧ q2 → Sx.Vw.Ok ⟨y, 1, lb, rb⟩ g := fun hp => (f2 hp.2).1.same k1
  refine Sx.reads (c := (Sx.bodyOf Try.f21)) Try.func21 (by kernel_rfl) (by kernel_rfl) k [⟨x, 1, la, ra⟩, ⟨y, 1, lb, rb⟩] (fun hp v hv => ?_) (argsC := [Sx.slcV 0 la, Sx.slcV 1 lb]) (fun hp N μ cs hcs => ?_) (nms := []) (bs := []) (K' := 2) (fun hp => ?_) rfl trivial (by rw [k.1]; rfl) (by rw [k.2.1]; rfl) id
  ·rcases List.mem_cons.1 hv with rfl | hv
   ·exact (f1 hp.1).1
   ·rcases List.mem_cons.1 hv with rfl | hv
    ·exact ok2 hp
    ·cases hv
  ·simp only [Sx.Reps] at hcs
   obtain ⟨c, r, rfl, hc, c', r', rfl, hc', rfl⟩ := hcs
   simp only [Sx.Reps]
   exact ⟨c, _, rfl, Sx.vw_val (l := [⟨x, 1, la, ra⟩, ⟨y, 1, lb, rb⟩]) (i := 0) (f1 hp.1).1 rfl hc, c', _, rfl, Sx.vw_val (l := [⟨x, 1, la, ra⟩, ⟨y, 1, lb, rb⟩]) (i := 1) (ok2 hp) rfl hc', rfl⟩
  ·obtain ⟨_, hm, hz⟩ := f1 hp.1
   obtain ⟨_, hz'⟩ := f2 hp.2
   dsimp only at hm hz hz'
   refine Sx.GoesB.weakGL (fl := [(0, Sx.slcV 0 la), (1, Sx.slcV 1 lb)]) (bl := [(0, .cells false 1 la (.fn fun j => [.flt true (flo (ra j))])), (1, .cells false 1 lb (.fn fun j => [.flt true (flo (rb j))]))]) ⟨⟨_, rfl, Sx.AV.ge.refl _⟩, ⟨_, rfl, Sx.AV.ge.refl _⟩, trivial⟩ ⟨⟨_, rfl, rfl, rfl, rfl, fun j hj => (hz j hj).ge⟩, ⟨_, rfl, rfl, rfl, rfl, fun j hj => (hz' j hj).ge⟩, trivial⟩ ?_
   refine (sf_goes la lb (fun j => flo (ra j)) (fun j => flo (rb j)) hm).mono fun e fr' H' ⟨e1, e2⟩ => ?_
   exact ⟨e1, _, _, Sx.res1 (t := 4) (by kernel_rfl) e2, trivial, Sx.AV.ge.bool _, Sx.news0⟩
 ·exact (Sx.no_done h).elim
theorem sameFS_tch : ∀ args, Sx.Tch (sameFS args) := by
 intro args
 unfold sameFS
 split
 ·exact (Sx.Tch.rd _ _ _).andThen fun _ => (Sx.Tch.rd _ _ _).andThen fun _ => Sx.Tch.ret _
 ·exact Sx.Tch.no
noncomputable def same1TS : List Sx.AV → Sx.M Sx.AV := Sx.expT sameS
theorem same1TS_ok : ∀ args v g g', same1TS args g = .done v g' → Sx.CallIs Try.prog 13 args v g g' := Sx.expT_ok same13_ok
theorem same1TS_tch : ∀ args, Sx.Tch (same1TS args) := Sx.expT_tch sameS_tch
noncomputable def sameFTS : List Sx.AV → Sx.M Sx.AV := Sx.expT sameFS
theorem sameFTS_ok : ∀ args v g g', sameFTS args g = .done v g' → Sx.CallIs Try.prog 21 args v g g' := Sx.expT_ok sameFS_ok
theorem sameFTS_tch : ∀ args, Sx.Tch (sameFTS args) := Sx.expT_tch sameFS_tch
noncomputable def gamF : Sx.Known := Sx.kc 11 Sx.ofBits (Sx.kc 48 Sx.toBits (Sx.kc 30 pickS (Sx.kc 43 finS (Sx.kc 46 finS (Sx.kc 24 placeS (Sx.kc 66 rplaceS (Sx.kc 32 atS (Sx.kc 67 ratS (Sx.kc 13 same1TS (Sx.kc 10 midTS (Sx.kc 47 rmidTS (Sx.kc 50 aptTS (Sx.kc 68 raptTS (Sx.kc 57 unlS (Sx.kc 19 fvS (Sx.kc 51 askS (Sx.kc 21 sameFTS (Sx.kn))))))))))))))))))
theorem gamF_ok : Sx.KnownOk Try.prog gamF := Sx.kc_ok ((Sx.ofBits_is Try.prog).callIs Try.func11 (by kernel_rfl) (by kernel_rfl) (by kernel_rfl) (by kernel_rfl)) (Sx.kc_ok ((Sx.toBits_is Try.prog).callIs Try.func48 (by kernel_rfl) (by kernel_rfl) (by kernel_rfl) (by kernel_rfl)) (Sx.kc_ok pickS_ok (Sx.kc_ok fin43_ok (Sx.kc_ok fin46_ok (Sx.kc_ok place24_ok (Sx.kc_ok rplace66_ok (Sx.kc_ok at32_ok (Sx.kc_ok rat67_ok (Sx.kc_ok same1TS_ok (Sx.kc_ok midTS_ok (Sx.kc_ok rmidTS_ok (Sx.kc_ok aptTS_ok (Sx.kc_ok raptTS_ok (Sx.kc_ok unlS_ok (Sx.kc_ok fvS_ok (Sx.kc_ok askS_ok (Sx.kc_ok sameFTS_ok (Sx.kn_ok))))))))))))))))))
theorem gamF_tch : Sx.KnownT gamF := Sx.kc_tch Sx.Tch.ofBits (Sx.kc_tch Sx.Tch.toBits (Sx.kc_tch pickS_tch (Sx.kc_tch finS_tch (Sx.kc_tch finS_tch (Sx.kc_tch placeS_tch (Sx.kc_tch rplaceS_tch (Sx.kc_tch atS_tch (Sx.kc_tch ratS_tch (Sx.kc_tch same1TS_tch (Sx.kc_tch midTS_tch (Sx.kc_tch rmidTS_tch (Sx.kc_tch aptTS_tch (Sx.kc_tch raptTS_tch (Sx.kc_tch unlS_tch (Sx.kc_tch fvS_tch (Sx.kc_tch askS_tch (Sx.kc_tch sameFTS_tch (Sx.kn_tch))))))))))))))))))
noncomputable def callF : Sx.Calls' := Sx.runN Try.prog gamF (Sx.regionC Try.prog) 1000 50
theorem callF_ok : Sx.CallOk Try.prog callF := Sx.engineC gamF_ok gamF_tch (by kernel_rfl) (by kernel_rfl) 1000 50
theorem callF_reg (n : Nat) : Sx.RegionOk Try.prog (Sx.regionC Try.prog callF n) n := Sx.runN_regionC gamF_ok gamF_tch (by kernel_rfl) (by kernel_rfl) 1000 50 n
noncomputable abbrev piececallF (f : Func) (c : Code) (fr : Sx.Fr) (H : Sx.T Sx.ABk) (K : Nat) (path : List Bool) : Sx.Res (Sx.Ex × Sx.Fr) :=
 Sx.codeA Try.prog callF (Sx.regionC Try.prog callF f.ntmps) Sx.noLoops f.ntmps 1000 c fr ⟨H, K, [], path, True⟩

/-- a search's answer: both ends, the steps, the error, what it asked -/
structure ZRes where
 lo : Nat
 hi : Nat
 s : Int
 e : Int
 n : Nat
 r : Nat → Nat
/-- one more is asked -/
def app (n : Nat) (r : Nat → Nat) (x : Nat) : Nat → Nat := fun j => bif decide (j < n) then r j else x
def two (x y : Nat) : Nat → Nat := app 1 (fun _ => x) y
/-- the two places between -/
def P1 (x y : Nat) : Nat := Sx.wd (Sx.rk x + (Sx.rk y - Sx.rk x) / 3)
def P2 (x y : Nat) : Nat := Sx.wd (Sx.rk y - (Sx.rk y - Sx.rk x) / 3)
theorem wd_FX {p : Int} (h : -9218868437227405311 ≤ p) (h2 : p ≤ 9218868437227405311) : FX (Sx.wd p) ∧ Sx.rk (Sx.wd p) = p := by
 have q := Sx.rk_wd (p := p) (by omega) (by omega)
 refine ⟨⟨q.2.1, ?_⟩, q.1⟩
 have q1 := q.1
 unfold Sx.finD
 unfold Sx.rk at q1
 refine decide_eq_true ?_
 have := q.2.1
 split at q1 <;> omega
theorem P1_ok {x y : Nat} (hx : FX x) (hy : FX y) (h : Sx.rk x ≤ Sx.rk y) : FX (P1 x y) ∧ Sx.rk (P1 x y) = Sx.rk x + (Sx.rk y - Sx.rk x) / 3 := by
 have a := hx.lo
 have b := hy.lo
 exact wd_FX (by omega) (by omega)
theorem P2_ok {x y : Nat} (hx : FX x) (hy : FX y) (h : Sx.rk x ≤ Sx.rk y) : FX (P2 x y) ∧ Sx.rk (P2 x y) = Sx.rk y - (Sx.rk y - Sx.rk x) / 3 := by
 have a := hx.lo
 have b := hy.lo
 exact wd_FX (by omega) (by omega)
/-- the steps of Greatest -/
noncomputable def ggo (F : Nat → Nat) : Nat → Nat → Nat → Int → Nat → (Nat → Nat) → ZRes
 | 0, lo, hi, s, n, r => ⟨lo, hi, s, 0, n, r⟩
 | f + 1, lo, hi, s, n, r =>
  bif decide (2 < Sx.rk hi - Sx.rk lo) then
   (bif Sx.feq (F (P1 lo hi)) (F (P1 lo hi)) then
    (bif Sx.feq (F (P2 lo hi)) (F (P2 lo hi)) then
     (bif Sx.flt (F (P1 lo hi)) (F (P2 lo hi)) then ggo F f (P1 lo hi) hi (s + 1) (n + 2) (app (n + 1) (app n r (P1 lo hi)) (P2 lo hi))
      else ggo F f lo (P2 lo hi) (s + 1) (n + 2) (app (n + 1) (app n r (P1 lo hi)) (P2 lo hi)))
     else ⟨0, 0, 0, 5, n + 2, app (n + 1) (app n r (P1 lo hi)) (P2 lo hi)⟩)
    else ⟨0, 0, 0, 5, n + 2, app (n + 1) (app n r (P1 lo hi)) (P2 lo hi)⟩)
  else ⟨lo, hi, s, 0, n, r⟩
/-- the three at last -/
def three (lo hi : Nat) : Nat → Nat := fun j => bif Nat.beq j 0 then lo else bif Nat.beq j 1 then MID lo hi else hi
noncomputable def gst (F v : Nat → Nat) : Nat → Nat × Nat × Bool
 | 0 => (0, 0, false)
 | i + 1 => (bif (Nat.beq i 0 || Sx.fgt (F (v i)) (gst F v i).2.1) then v i else (gst F v i).1, bif (Nat.beq i 0 || Sx.fgt (F (v i)) (gst F v i).2.1) then F (v i) else (gst F v i).2.1, (gst F v i).2.2 || !Sx.feq (F (v i)) (F (v i)))
theorem ggo_stop {F : Nat → Nat} {f lo hi : Nat} {s : Int} {n : Nat} {r : Nat → Nat} (h : f = 0 ∨ ¬ 2 < Sx.rk hi - Sx.rk lo) : ggo F f lo hi s n r = ⟨lo, hi, s, 0, n, r⟩ := by
 cases f with
 | zero => rfl
 | succ f =>
  unfold ggo
  rw [decide_eq_false (h.resolve_left (by omega))]
  rfl

theorem of1 {p : Nat → Prop} (h : p 0) (j : Nat) (hj : j < 1) : p j := by
 obtain rfl : j = 0 := by omega
 exact h
theorem hb1 {g sz : Nat} {own : Bool} {H : Sx.T Sx.ABk} {rows rows' : Nat → List Sx.AV} (h : H.get g = some (.cells own sz 1 (.fn rows))) (e : rows 0 = rows' 0 := by rfl) : ∃ b', H.get g = some b' ∧ Sx.SameC b' (.cells own sz 1 (.fn rows')) :=
 ⟨_, h, rfl, rfl, rfl, of1 (p := fun j => rows j = rows' j) e⟩
theorem hbl1 {g sz : Nat} {own : Bool} {d : List Sx.AV} {t : Sx.T (List Sx.AV)} {H : Sx.T Sx.ABk} {rows' : Nat → List Sx.AV} (h : H.get g = some (.cells own sz 1 (.lit d t))) (e : (Sx.Cont.lit d t).row 0 = rows' 0 := by rfl) : ∃ b', H.get g = some b' ∧ Sx.SameC b' (.cells own sz 1 (.fn rows')) :=
 ⟨_, h, rfl, rfl, rfl, of1 (p := fun j => (Sx.Cont.lit d t).row j = rows' j) e⟩
theorem tup4 {a b c d a' b' c' d' : Sx.AV} (h1 : Sx.AV.ge a a') (h2 : Sx.AV.ge b b') (h3 : Sx.AV.ge c c') (h4 : Sx.AV.ge d d') : Sx.AV.ge (.tup [a, b, c, d]) (.tup [a', b', c', d']) := fun N μ cv hr => by
 simp only [Sx.Rep, Sx.Reps] at hr ⊢
 obtain ⟨cs, rfl, c1, r1, e1, k1, c2, r2, e2, k2, c3, r3, e3, k3, c4, r4, e4, k4, e5⟩ := hr
 exact ⟨cs, rfl, c1, r1, e1, h1 _ _ _ k1, c2, r2, e2, h2 _ _ _ k2, c3, r3, e3, h3 _ _ _ k3, c4, r4, e4, h4 _ _ _ k4, e5⟩
theorem tdiv3 {z : Int} (h : 0 ≤ z) : Int.tdiv z 3 = z / 3 := Int.tdiv_eq_ediv_of_nonneg h
theorem gst_0 {F v : Nat → Nat} : v 0 = (gst F v (0 + 1)).1 ∧ F (v 0) = (gst F v (0 + 1)).2.1 := ⟨rfl, rfl⟩
theorem gst_t {F v : Nat → Nat} {i : Nat} (t : Sx.fgt (F (v (i + 1))) (gst F v (i + 1)).2.1 = true) : v (i + 1) = (gst F v (i + 1 + 1)).1 ∧ F (v (i + 1)) = (gst F v (i + 1 + 1)).2.1 := by
 have h : (Nat.beq (i + 1) 0 || Sx.fgt (F (v (i + 1))) (gst F v (i + 1)).2.1) = true := by rw [t]; rfl
 constructor
 ·show _ = (bif (Nat.beq (i + 1) 0 || Sx.fgt (F (v (i + 1))) (gst F v (i + 1)).2.1) then _ else _); rw [h]; rfl
 ·show _ = (bif (Nat.beq (i + 1) 0 || Sx.fgt (F (v (i + 1))) (gst F v (i + 1)).2.1) then _ else _); rw [h]; rfl
theorem gst_f {F v : Nat → Nat} {i : Nat} (t : Sx.fgt (F (v (i + 1))) (gst F v (i + 1)).2.1 = false) : (gst F v (i + 1)).1 = (gst F v (i + 1 + 1)).1 ∧ (gst F v (i + 1)).2.1 = (gst F v (i + 1 + 1)).2.1 := by
 have h : (Nat.beq (i + 1) 0 || Sx.fgt (F (v (i + 1))) (gst F v (i + 1)).2.1) = false := by rw [t]; rfl
 constructor
 ·show _ = (bif (Nat.beq (i + 1) 0 || Sx.fgt (F (v (i + 1))) (gst F v (i + 1)).2.1) then _ else _); rw [h]; rfl
 ·show _ = (bif (Nat.beq (i + 1) 0 || Sx.fgt (F (v (i + 1))) (gst F v (i + 1)).2.1) then _ else _); rw [h]; rfl
theorem three_row (lo hi j : Nat) (hj : j < 3) : (Sx.Cont.lit [Sx.AV.flt false 0] (Sx.T.n (Sx.T.n Sx.T.e (some [Sx.AV.flt true (MID lo hi)]) Sx.T.e) (some [Sx.AV.flt true lo]) (Sx.T.n Sx.T.e (some [Sx.AV.flt true hi]) Sx.T.e))).row j = [Sx.AV.flt true (three lo hi j)] := by
 match j, hj with
 | 0, _ => rfl
 | 1, _ => rfl
 | 2, _ => rfl
theorem tpA_r0 (a : Int) (x : Nat) (c0 : Sx.isnan x = false) (c1 : (-9223372036854775808 : Int) ≤ Sx.rk x - a) (c2 : Sx.rk x - a ≤ (9223372036854775807 : Int)) (c3 : decide (Sx.rk x - a < (0 : Int)) = true) (c4 : (-9223372036854775808 : Int) ≤ (0 : Int) - (Sx.rk x - a)) (c5 : (0 : Int) - (Sx.rk x - a) ≤ (9223372036854775807 : Int)) : Sx.PieceN 1 (Sx.Ex.ret) [(3, .flt true (Sx.fneg (Sx.ofInt ((0 : Int) - (Sx.rk x - a)))))] [] (piececallF Try.f33 ((Sx.bodyOf Try.f33)) (Sx.frameOf [.flt true x, .ptr ⟨false, 0, 0, 0⟩] 0 .e) (Sx.hpL [(0, .cells false 1 1 (.fn fun j => [.int true .i64 a]))]) 1 [true]) := Sx.eqn (q := ((((True ∧ (Sx.isnan x = false)) ∧ (((-9223372036854775808 : Int) ≤ Sx.rk x - a) ∧ (Sx.rk x - a ≤ (9223372036854775807 : Int)))) ∧ (decide (Sx.rk x - a < (0 : Int)) = true)) ∧ (((-9223372036854775808 : Int) ≤ (0 : Int) - (Sx.rk x - a)) ∧ ((0 : Int) - (Sx.rk x - a) ≤ (9223372036854775807 : Int))))) (by kernel_rfl) ⟨⟨⟨⟨trivial, c0⟩, ⟨c1, c2⟩⟩, c3⟩, ⟨c4, c5⟩⟩
theorem tpA_r1 (a : Int) (x : Nat) (c0 : Sx.isnan x = false) (c1 : (-9223372036854775808 : Int) ≤ Sx.rk x - a) (c2 : Sx.rk x - a ≤ (9223372036854775807 : Int)) (c3 : decide (Sx.rk x - a < (0 : Int)) = false) : Sx.PieceN 1 (Sx.Ex.ret) [(3, .flt true (Sx.fneg (Sx.ofInt (Sx.rk x - a))))] [] (piececallF Try.f33 ((Sx.bodyOf Try.f33)) (Sx.frameOf [.flt true x, .ptr ⟨false, 0, 0, 0⟩] 0 .e) (Sx.hpL [(0, .cells false 1 1 (.fn fun j => [.int true .i64 a]))]) 1 [false]) := Sx.eqn (q := (((True ∧ (Sx.isnan x = false)) ∧ (((-9223372036854775808 : Int) ≤ Sx.rk x - a) ∧ (Sx.rk x - a ≤ (9223372036854775807 : Int)))) ∧ (decide (Sx.rk x - a < (0 : Int)) = false))) (by kernel_rfl) ⟨⟨⟨trivial, c0⟩, ⟨c1, c2⟩⟩, c3⟩
theorem tpA (B : Nat) (hB : B ≤ 1) (a : Int) (x : Nat) (x0 : (Sx.isnan x = false)) (x1 : ((decide (Sx.rk x - a < (0 : Int))) = true → ((-9223372036854775808 : Int) ≤ Sx.rk x - a))) (x2 : ((decide (Sx.rk x - a < (0 : Int))) = true → ((0 : Int) - (Sx.rk x - a) ≤ (9223372036854775807 : Int)))) (x3 : ((decide (Sx.rk x - a < (0 : Int))) = false → (Sx.rk x - a ≤ (9223372036854775807 : Int)))) : Sx.GoesB Try.prog ((Sx.bodyOf Try.f33)) Try.f33.ntmps B 1 1 (Sx.frameOf [.flt true x, .ptr ⟨false, 0, 0, 0⟩] 0 .e) (Sx.hpL [(0, .cells false 1 1 (.fn fun j => [.int true .i64 a]))]) fun e fr' H' => (cond (decide (Sx.rk x - a < (0 : Int))) (e = .ret ∧ fr' = Sx.frL [(3, .flt true (Sx.fneg (Sx.ofInt ((0 : Int) - (Sx.rk x - a)))))] ∧ H' = Sx.hpL []) (e = .ret ∧ fr' = Sx.frL [(3, .flt true (Sx.fneg (Sx.ofInt (Sx.rk x - a))))] ∧ H' = Sx.hpL [])) := by
 cases t0 : decide (Sx.rk x - a < (0 : Int)) with
 | true =>
  exact (Sx.GoesB.runN callF_ok (callF_reg _) (Sx.LoopsIn.none _ _ _) (tpA_r0 a x (x0) (x1 t0) (by first | decide | ((try simp only [decide_eq_true_eq, decide_eq_false_iff_not] at t0); (try simp only [List.length_take, List.length_drop]); omega)) t0 (by first | decide | ((try simp only [decide_eq_true_eq, decide_eq_false_iff_not] at t0); (try simp only [List.length_take, List.length_drop]); omega)) (x2 t0)) hB).mono fun e fr' H' h => by first | (simp only [t0, cond_true, cond_false]; exact h) | (simp only [t0, cond_true, cond_false] at h ⊢; exact h)
 | false =>
  exact (Sx.GoesB.runN callF_ok (callF_reg _) (Sx.LoopsIn.none _ _ _) (tpA_r1 a x (x0) (by first | decide | ((try simp only [decide_eq_true_eq, decide_eq_false_iff_not] at t0); (try simp only [List.length_take, List.length_drop]); omega)) (x3 t0) t0) hB).mono fun e fr' H' h => by first | (simp only [t0, cond_true, cond_false]; exact h) | (simp only [t0, cond_true, cond_false] at h ⊢; exact h)
/-- near the top -/
def Near (a : Int) (x : Nat) : Prop := FX x ∧ -4503599627370496 ≤ Sx.rk x - a ∧ Sx.rk x - a ≤ 4503599627370496
/-- by how many places -/
def DD (a : Int) (x : Nat) : Int := if Sx.rk x - a < 0 then 0 - (Sx.rk x - a) else Sx.rk x - a
noncomputable def TV (a : Int) (x : Nat) : Nat := Sx.fneg (Sx.ofInt (DD a x))
noncomputable def topS : List Sx.AV → Sx.M Sx.AV
 | [.flt _ x, .ptr p] => (Sx.getC p.g).andThen fun b =>
  match b.2.2.2.row 0 with
  | [.int _ .i64 a] => (Sx.M.okIf (Nat.beq b.2.1 1 && Nat.beq b.2.2.1 1 && Nat.beq p.i 0 && Nat.beq p.o 0)).andThen fun _ => (Sx.M.req (Near a x)).andThen fun _ => Sx.M.ret (.flt true (TV a x))
  | _ => Sx.M.no
 | _ => Sx.M.no
theorem topS_tch : ∀ args, Sx.Tch (topS args) := by
 intro args
 unfold topS
 split
 ·refine (Sx.Tch.getC _).andThen fun b => ?_
  split
  ·exact (Sx.Tch.okIf _).andThen fun _ => (Sx.Tch.req _).andThen fun _ => Sx.Tch.ret _
  ·exact Sx.Tch.no
 ·exact Sx.Tch.no
theorem topS_ok : ∀ args v g g', topS args g = .done v g' → Sx.CallIs Try.prog 33 args v g g' := by
 intro args v g g' h
 unfold topS at h
 split at h
 case h_2 => exact (Sx.no_done h).elim
 rename_i s x p
 obtain ⟨⟨ob, zb, mb, cb⟩, g1, a1, h1⟩ := Sx.done_of h
 clear h
 obtain ⟨t1, rfl⟩ := Sx.getC_done a1
 dsimp only at h1 t1
 generalize r1 : cb.row 0 = R1 at h1
 split at h1
 case h_2 => exact (Sx.no_done h1).elim
 rename_i s1 a
 obtain ⟨_, g2, a2, h2⟩ := Sx.done_of h1
 clear h1
 obtain ⟨hq, rfl⟩ := Sx.okIf_done a2
 simp only [Bool.and_eq_true] at hq
 obtain ⟨⟨⟨q1, q2⟩, q3⟩, q4⟩ := hq
 obtain rfl := Nat.eq_of_beq_eq_true q1
 obtain rfl := Nat.eq_of_beq_eq_true q2
 replace q3 := Nat.eq_of_beq_eq_true q3
 replace q4 := Nat.eq_of_beq_eq_true q4
 obtain ⟨_, g3, a3, h3⟩ := Sx.done_of h2
 have kk := Sx.req_done a3
 obtain ⟨rfl, rfl⟩ := Sx.ret_done h3
 refine Sx.smallCallN (c := Sx.bodyOf Try.f33) Try.func33 (by kernel_rfl) (by kernel_rfl) (argsC := [.flt true x, .ptr ⟨false, 0, 0, 0⟩]) (bl := [(0, .cells false 1 1 (.fn fun j => [.int true .i64 a]))]) (bl' := []) (K0 := 1) (K' := 1) (p := _) (fun hc => kk.2.2 hc) (fun _ => p.g) (fun _ => 0) (nms := []) (by rw [kk.2.1]; rfl) (fun _ => False) ?_ ?_ ?_ (fun _ h => by cases h) List.nodup_nil (fun _ _ j hj => absurd hj (Nat.not_lt_zero j)) (fun _ _ i hi => hi.elim) ?_ (fun _ _ => rfl) (fun _ _ => trivial) (fun _ _ q hq => by cases hq) ?_
 ·intro hp N μ cs hr
  simp only [Sx.Reps] at hr ⊢
  obtain ⟨c1, r, rfl, h1, c2, r', rfl, h2, h3⟩ := hr
  exact ⟨c1, _, rfl, (by simp only [Sx.Rep] at h1 ⊢; exact h1), c2, _, rfl, rep_ptr0 h2 q3 q4 (by omega) rfl, h3⟩
 ·intro hp i b hbb
  have hm := Sx.hpL_get hbb
  simp only [List.mem_cons, List.not_mem_nil, or_false] at hm
  cases hm
  exact ⟨by omega, fun i0 _ v hv => by rw [List.mem_singleton.1 hv]; rfl, _, t1, fun N μ hpp k => view1 k (by rw [r1]; exact ⟨Sx.AV.ge.int _ _ _ _, rfl, trivial⟩), fun h => (by cases h), fun μ j hr => .inl (by omega)⟩
 ·intro hp i j b b' hi hj e
  have hm := Sx.hpL_get hi
  have hm' := Sx.hpL_get hj
  simp only [List.mem_cons, List.not_mem_nil, or_false] at hm hm'
  cases hm; cases hm'; rfl
 ·intro hp _
  obtain ⟨f1, f2, f3⟩ := hp
  refine (tpA 1 (by omega) a x f1.nn (fun _ => by omega) (fun _ => by omega) (fun _ => by omega)).mono fun e fr' H' h => ?_
  refine Sx.cond_elim h (fun t1 h => ?_) (fun t1 h => ?_)
  ·obtain ⟨rfl, rfl, rfl⟩ := h
   exact ⟨.inl rfl, _, _, Sx.res1 (t := 3) (by kernel_rfl) rfl, trivial, Sx.AV.ge.flt' _ _ (by unfold TV DD; rw [if_pos (of_decide_eq_true t1)]), fun q hq => by cases hq⟩
  ·obtain ⟨rfl, rfl, rfl⟩ := h
   exact ⟨.inl rfl, _, _, Sx.res1 (t := 3) (by kernel_rfl) rfl, trivial, Sx.AV.ge.flt' _ _ (by unfold TV DD; rw [if_neg (of_decide_eq_false t1)]), fun q hq => by cases hq⟩
 ·intro hp _ i b hi
  refine .inl ⟨by rw [← kk.1]; exact hi, fun j bj hj ho => ?_⟩
  have hm := Sx.hpL_get hj
  simp only [List.mem_cons, List.not_mem_nil, or_false] at hm
  cases hm; cases ho
theorem awake_run : Sx.pureP (.bool true) (callB 23 [] (Sx.G.on [])) = (Sx.AV.bool true = Sx.AV.bool true ∧ True) := by kernel_rfl
noncomputable def awakeS : List Sx.AV → Sx.M Sx.AV
 | [] => Sx.M.ret (.bool true)
 | args => callB 23 args
theorem awakeS_ok : ∀ args v g g', awakeS args g = .done v g' → Sx.CallIs Try.prog 23 args v g g' := by
 intro args v g g' h
 unfold awakeS at h
 split at h
 ·obtain ⟨rfl, rfl⟩ := Sx.ret_done h
  refine Sx.scal callB_ok fun μ cargs ha => ?_
  have ha' : Sx.Reps 0 Sx.MM.none [] cargs.toList := by simpa only [Sx.Reps] using ha
  exact ⟨[], [], _, ha', ⟨by rw [awake_run]; exact ⟨rfl, trivial⟩⟩, rfl, fun c hc => by have := hc g.nx μ; simpa only [Sx.Rep] using this⟩
 ·exact callB_ok _ _ _ _ _ h
theorem awakeS_tch : ∀ args, Sx.Tch (awakeS args) := by
 intro args
 unfold awakeS
 split
 ·exact Sx.Tch.ret _
 ·exact callB_tch _ _
noncomputable def gamU : Sx.Known := Sx.kc 11 Sx.ofBits (Sx.kc 48 Sx.toBits (Sx.kc 30 pickS (Sx.kc 43 finS (Sx.kc 46 finS (Sx.kc 24 placeS (Sx.kc 66 rplaceS (Sx.kc 32 atS (Sx.kc 67 ratS (Sx.kc 13 same1TS (Sx.kc 10 midTS (Sx.kc 47 rmidTS (Sx.kc 50 aptTS (Sx.kc 68 raptTS (Sx.kc 57 unlS (Sx.kc 33 topS (Sx.kc 23 awakeS (Sx.kn)))))))))))))))))
theorem gamU_ok : Sx.KnownOk Try.prog gamU := Sx.kc_ok ((Sx.ofBits_is Try.prog).callIs Try.func11 (by kernel_rfl) (by kernel_rfl) (by kernel_rfl) (by kernel_rfl)) (Sx.kc_ok ((Sx.toBits_is Try.prog).callIs Try.func48 (by kernel_rfl) (by kernel_rfl) (by kernel_rfl) (by kernel_rfl)) (Sx.kc_ok pickS_ok (Sx.kc_ok fin43_ok (Sx.kc_ok fin46_ok (Sx.kc_ok place24_ok (Sx.kc_ok rplace66_ok (Sx.kc_ok at32_ok (Sx.kc_ok rat67_ok (Sx.kc_ok same1TS_ok (Sx.kc_ok midTS_ok (Sx.kc_ok rmidTS_ok (Sx.kc_ok aptTS_ok (Sx.kc_ok raptTS_ok (Sx.kc_ok unlS_ok (Sx.kc_ok topS_ok (Sx.kc_ok awakeS_ok (Sx.kn_ok)))))))))))))))))
theorem gamU_tch : Sx.KnownT gamU := Sx.kc_tch Sx.Tch.ofBits (Sx.kc_tch Sx.Tch.toBits (Sx.kc_tch pickS_tch (Sx.kc_tch finS_tch (Sx.kc_tch finS_tch (Sx.kc_tch placeS_tch (Sx.kc_tch rplaceS_tch (Sx.kc_tch atS_tch (Sx.kc_tch ratS_tch (Sx.kc_tch same1TS_tch (Sx.kc_tch midTS_tch (Sx.kc_tch rmidTS_tch (Sx.kc_tch aptTS_tch (Sx.kc_tch raptTS_tch (Sx.kc_tch unlS_tch (Sx.kc_tch topS_tch (Sx.kc_tch awakeS_tch (Sx.kn_tch)))))))))))))))))
noncomputable def callU : Sx.Calls' := Sx.runN Try.prog gamU (Sx.regionC Try.prog) 1000 50
theorem callU_ok : Sx.CallOk Try.prog callU := Sx.engineC gamU_ok gamU_tch (by kernel_rfl) (by kernel_rfl) 1000 50
theorem callU_reg (n : Nat) : Sx.RegionOk Try.prog (Sx.regionC Try.prog callU n) n := Sx.runN_regionC gamU_ok gamU_tch (by kernel_rfl) (by kernel_rfl) 1000 50 n
noncomputable abbrev piececallU (f : Func) (c : Code) (fr : Sx.Fr) (H : Sx.T Sx.ABk) (K : Nat) (path : List Bool) : Sx.Res (Sx.Ex × Sx.Fr) :=
 Sx.codeA Try.prog callU (Sx.regionC Try.prog callU f.ntmps) Sx.noLoops f.ntmps 1000 c fr ⟨H, K, [], path, True⟩

/-- the value's place: the farther, the lower -/
theorem TV_ok {a : Int} {x : Nat} (h : Near a x) : ∃ r : Nat, TV a x < 18446744073709551616 ∧ Sx.isnan (TV a x) = false ∧ Sx.rk (TV a x) = -(r : Int) ∧ Sx.U r = (DD a x).toNat * Sx.one1 := by
 have hd : 0 ≤ DD a x ∧ DD a x ≤ 4503599627370496 := by
  have h1 := h.2.1
  have h2 := h.2.2
  unfold DD; split <;> omega
 have hs : Sx.Sm (DD a x) := by unfold Sx.Sm; omega
 have nf := Sx.near_fin hs
 have e : TV a x = Ieee.double.word true (Sx.nearU ((DD a x).natAbs * Sx.one1)) := by
  unfold TV
  rw [Sx.ofInt_W, Sx.W_is, decide_eq_false (by omega), Sx.fneg_word _ (by omega)]
  rfl
 have hU := Sx.W_U hs
 rw [Sx.W_mod hs] at hU
 have ev : TV a x = 9223372036854775808 + Sx.nearU ((DD a x).natAbs * Sx.one1) := by rw [e, Sx.word_val]; rfl
 generalize Sx.nearU ((DD a x).natAbs * Sx.one1) = r at nf hU ev
 refine ⟨r, by omega, ?_, ?_, ?_⟩
 ·unfold Sx.isnan
  exact decide_eq_false (by omega)
 ·unfold Sx.rk
  rw [if_pos (by omega)]; omega
 ·rw [hU, show (DD a x).natAbs = (DD a x).toNat by omega]
theorem DD_nn {a : Int} {x : Nat} : 0 ≤ DD a x := by unfold DD; split <;> omega
theorem TV_lt {a : Int} {x y : Nat} (hx : Near a x) (hy : Near a y) : (Sx.rk (TV a x) < Sx.rk (TV a y)) ↔ DD a y < DD a x := by
 obtain ⟨r, _, _, h1, h2⟩ := TV_ok hx
 obtain ⟨q, _, _, k1, k2⟩ := TV_ok hy
 have p := Sx.one1_pos
 have n1 := DD_nn (a := a) (x := x)
 have n2 := DD_nn (a := a) (x := y)
 rw [h1, k1]
 constructor
 ·intro h
  have : Sx.U q < Sx.U r := Sx.U_lt (by omega)
  rw [h2, k2] at this
  have := Nat.lt_of_mul_lt_mul_right this
  omega
 ·intro h
  have : Sx.U q < Sx.U r := by rw [h2, k2]; exact Nat.mul_lt_mul_of_pos_right (by omega) p
  have := Sx.U_lt_iff.1 this
  omega
theorem TV_flt {a : Int} {x y : Nat} (hx : Near a x) (hy : Near a y) : Sx.flt (TV a x) (TV a y) = decide (DD a y < DD a x) := by
 obtain ⟨r, h1, h2, _⟩ := TV_ok hx
 obtain ⟨q, k1, k2, _⟩ := TV_ok hy
 rw [Sx.flt_rk h1 k1, h2, k2, decide_eq_decide.2 (TV_lt hx hy)]; rfl
theorem TV_fgt {a : Int} {x y : Nat} (hx : Near a x) (hy : Near a y) : Sx.fgt (TV a x) (TV a y) = decide (DD a x < DD a y) := by
 obtain ⟨r, h1, h2, _⟩ := TV_ok hx
 obtain ⟨q, k1, k2, _⟩ := TV_ok hy
 rw [Sx.fgt_rk h1 k1, h2, k2, decide_eq_decide.2 (TV_lt hy hx)]; rfl
theorem TV_feq {a : Int} {x : Nat} (hx : Near a x) : Sx.feq (TV a x) (TV a x) = true := by
 obtain ⟨r, h1, h2, _⟩ := TV_ok hx
 rw [Sx.feq_rk h1 h1, h2, decide_eq_true rfl]; rfl
theorem TV_zero {a : Int} {x : Nat} (hx : Near a x) (h : Sx.rk x = a) : Sx.feq (TV a x) 0 = true := by
 have : DD a x = 0 := by unfold DD; rw [if_neg (by omega)]; omega
 unfold TV; rw [this]; decide +kernel
/-- between -/
theorem near_between {a : Int} {x lo hi : Nat} (h1 : Near a lo) (h2 : Near a hi) (fx : FX x) (l : Sx.rk lo ≤ Sx.rk x) (u : Sx.rk x ≤ Sx.rk hi) : Near a x := by
 have a1 := h1.2.1
 have a2 := h2.2.2
 exact ⟨fx, by omega, by omega⟩
structure TopG (a : Int) (G : ZRes) : Prop where
 e : G.e = 0
 nl : Near a G.lo
 nh : Near a G.hi
 l : Sx.rk G.lo ≤ a
 h : a ≤ Sx.rk G.hi
 w : Sx.rk G.hi - Sx.rk G.lo ≤ 2
theorem ggo_top {a : Int} : ∀ (f lo hi : Nat) (s : Int) (n : Nat) (r : Nat → Nat), Near a lo → Near a hi → Sx.rk lo ≤ a → a ≤ Sx.rk hi → (Sx.rk hi - Sx.rk lo - 2) * 2 ^ f < 3 ^ f → TopG a (ggo (TV a) f lo hi s n r)
 | 0, lo, hi, s, n, r, h1, h2, h3, h4, hw => by
  exact ⟨rfl, h1, h2, h3, h4, by show Sx.rk hi - Sx.rk lo ≤ 2; simp at hw; omega⟩
 | f + 1, lo, hi, s, n, r, h1, h2, h3, h4, hw => by
  by_cases hgap : 2 < Sx.rk hi - Sx.rk lo
  case neg =>
   rw [ggo_stop (.inr hgap)]
   exact ⟨rfl, h1, h2, h3, h4, by show Sx.rk hi - Sx.rk lo ≤ 2; omega⟩
  have p1 := P1_ok h1.1 h2.1 (by omega)
  have p2 := P2_ok h1.1 h2.1 (by omega)
  have e1 := p1.2
  have e2 := p2.2
  have n1 := near_between h1 h2 p1.1 (by omega) (by omega)
  have n2 := near_between h1 h2 p2.1 (by omega) (by omega)
  have pw : (0 : Int) < 2 ^ f := Int.pow_pos (by omega)
  have k2 : (2 : Int) ^ (f + 1) = 2 * 2 ^ f := by rw [Int.pow_succ]; omega
  have k3 : (3 : Int) ^ (f + 1) = 3 * 3 ^ f := by rw [Int.pow_succ]; omega
  have less : ∀ w : Int, 3 * (w - 2) ≤ 2 * (Sx.rk hi - Sx.rk lo - 2) → (w - 2) * 2 ^ f < 3 ^ f := fun w hww => by
   rw [k2, k3] at hw
   have m := Int.mul_le_mul_of_nonneg_right hww (Int.le_of_lt pw)
   have a1 : 3 * (w - 2) * 2 ^ f = 3 * ((w - 2) * 2 ^ f) := Int.mul_assoc _ _ _
   have a2 : 2 * (Sx.rk hi - Sx.rk lo - 2) * 2 ^ f = (Sx.rk hi - Sx.rk lo - 2) * (2 * 2 ^ f) := by rw [Int.mul_comm 2 (Sx.rk hi - Sx.rk lo - 2), Int.mul_assoc]
   rw [a1, a2] at m
   omega
  unfold ggo
  rw [decide_eq_true hgap, cond_true, TV_feq n1, cond_true, TV_feq n2, cond_true, TV_flt n1 n2]
  by_cases c : DD a (P2 lo hi) < DD a (P1 lo hi)
  ·rw [decide_eq_true c, cond_true]
   refine ggo_top f _ _ _ _ _ n1 h2 ?_ h4 (less _ (by omega))
   unfold DD at c; split at c <;> split at c <;> omega
  ·rw [decide_eq_false c, cond_false]
   refine ggo_top f _ _ _ _ _ h1 n2 h3 ?_ (less _ (by omega))
   unfold DD at c; split at c <;> split at c <;> omega
theorem gst_near {a : Int} {v : Nat → Nat} : ∀ i, (∀ j, j < i + 1 → Near a (v j)) → (∃ j, j < i + 1 ∧ (gst (TV a) v (i + 1)).1 = v j) ∧ (gst (TV a) v (i + 1)).2.1 = TV a (gst (TV a) v (i + 1)).1 ∧ (gst (TV a) v (i + 1)).2.2 = false ∧ ∀ j, j < i + 1 → DD a (gst (TV a) v (i + 1)).1 ≤ DD a (v j)
 | 0, h => by
  have e : (gst (TV a) v (0 + 1)) = (v 0, TV a (v 0), !Sx.feq (TV a (v 0)) (TV a (v 0))) := by unfold gst; rfl
  rw [e, TV_feq (h 0 (by omega))]
  refine ⟨⟨0, by omega, rfl⟩, rfl, rfl, fun j hj => ?_⟩
  obtain rfl : j = 0 := by omega
  exact Int.le_refl _
 | i + 1, h => by
  obtain ⟨⟨k, hk, e1⟩, e2, e3, e4⟩ := gst_near i fun j hj => h j (by omega)
  have nk := h k (by omega)
  have ni := h (i + 1) (by omega)
  have e : gst (TV a) v (i + 1 + 1) = (bif decide (DD a (v (i + 1)) < DD a (v k)) then v (i + 1) else v k, bif decide (DD a (v (i + 1)) < DD a (v k)) then TV a (v (i + 1)) else TV a (v k), false) := by
   rw [gst, e3, e2, e1, TV_fgt ni nk, TV_feq ni]; rfl
  rw [e]
  rw [e1] at e4
  by_cases c : DD a (v (i + 1)) < DD a (v k)
  ·rw [decide_eq_true c]
   refine ⟨⟨i + 1, by omega, rfl⟩, rfl, rfl, fun j hj => ?_⟩
   show DD a (v (i + 1)) ≤ _
   rcases Nat.lt_or_ge j (i + 1) with q | q
   ·have := e4 j q; omega
   ·obtain rfl : j = i + 1 := by omega
    omega
  ·rw [decide_eq_false c]
   refine ⟨⟨k, by omega, rfl⟩, rfl, rfl, fun j hj => ?_⟩
   show DD a (v k) ≤ _
   rcases Nat.lt_or_ge j (i + 1) with q | q
   ·exact e4 j q
   ·obtain rfl : j = i + 1 := by omega
    omega
theorem three_near {a : Int} {G : ZRes} (h : TopG a G) : ∀ j, j < 3 → Near a (three G.lo G.hi j) := by
 intro j hj
 have m := MID_rk h.nl.1 h.nh.1
 have l := h.l
 have u := h.h
 match j, hj with
 | 0, _ => exact h.nl
 | 1, _ => exact near_between (x := MID G.lo G.hi) h.nl h.nh (MID_FX h.nl.1 h.nh.1) (by omega) (by omega)
 | 2, _ => exact h.nh
/-- what Greatest answers -/
theorem top_end {a : Int} {G : ZRes} (h : TopG a G) : ∃ x, Near a x ∧ Sx.rk x = a ∧ (gst (TV a) (three G.lo G.hi) 3).1 = x ∧ (gst (TV a) (three G.lo G.hi) 3).2.1 = TV a x ∧ (gst (TV a) (three G.lo G.hi) 3).2.2 = false := by
 obtain ⟨⟨j, hj, e1⟩, e2, e3, e4⟩ := gst_near 2 (three_near h)
 have nj := three_near h j hj
 refine ⟨_, nj, ?_, e1, e1 ▸ e2, e3⟩
 have m := MID_rk h.nl.1 h.nh.1
 have l := h.l
 have u := h.h
 have w := h.w
 rw [e1] at e4
 have f0 := e4 0 (by omega)
 have f1 := e4 1 (by omega)
 have f2 := e4 2 (by omega)
 have g0 : three G.lo G.hi 0 = G.lo := rfl
 have g1 : three G.lo G.hi 1 = MID G.lo G.hi := rfl
 have g2 : three G.lo G.hi 2 = G.hi := rfl
 rw [g0] at f0
 rw [g1] at f1
 rw [g2] at f2
 generalize three G.lo G.hi j = z at f0 f1 f2 ⊢
 have d : DD a z ≤ 0 := by
  by_cases c0 : Sx.rk G.lo = a
  ·have : DD a G.lo = 0 := by unfold DD; rw [if_neg (by omega)]; omega
   omega
  ·by_cases c2 : Sx.rk G.hi = a
   ·have : DD a G.hi = 0 := by unfold DD; rw [if_neg (by omega)]; omega
    omega
   ·have : DD a (MID G.lo G.hi) = 0 := by unfold DD; rw [if_neg (by omega)]; omega
    omega
 unfold DD at d
 split at d <;> omega

theorem taA_r0 (a : Int) (x y lo hi v1 v2 gx gy z : Nat) (m s e_ : Int) (v : Nat → Nat) : Sx.PieceN 1 (Sx.Ex.normal) [(0, .fn (Go.Fn.func (33 : Go.FuncId)) [] [.ptr ⟨false, 0, 0, 0⟩]), (1, .flt true x), (2, .flt true y), (3, .int true .i64 m), (8, .flt false 0), (9, .flt false 0), (10, .int false .i64 0), (11, .int false .i64 0)] [(0, .cells true 1 1 (.fn fun j => [.int true .i64 a]))] (piececallU Try.f14 (Sx.nav [0] (Sx.bodyOf Try.f14)) (Sx.frameOf [.fn (.func 33) [] [.ptr ⟨false, 0, 0, 0⟩], .flt true x, .flt true y, .int true .i64 m] 0 .e) (Sx.hpL [(0, .cells true 1 1 (.fn fun j => [.int true .i64 a]))]) 1 []) := Sx.eqn (q := True) (by kernel_rfl) trivial
theorem taA (B : Nat) (hB : B ≤ 1) (a : Int) (x y lo hi v1 v2 gx gy z : Nat) (m s e_ : Int) (v : Nat → Nat) : Sx.GoesB Try.prog (Sx.nav [0] (Sx.bodyOf Try.f14)) Try.f14.ntmps B 1 1 (Sx.frameOf [.fn (.func 33) [] [.ptr ⟨false, 0, 0, 0⟩], .flt true x, .flt true y, .int true .i64 m] 0 .e) (Sx.hpL [(0, .cells true 1 1 (.fn fun j => [.int true .i64 a]))]) fun e fr' H' => (e = .normal ∧ fr' = Sx.frL [(0, .fn (Go.Fn.func (33 : Go.FuncId)) [] [.ptr ⟨false, 0, 0, 0⟩]), (1, .flt true x), (2, .flt true y), (3, .int true .i64 m), (8, .flt false 0), (9, .flt false 0), (10, .int false .i64 0), (11, .int false .i64 0)] ∧ H' = Sx.hpL [(0, .cells true 1 1 (.fn fun j => [.int true .i64 a]))]) := by
 exact (Sx.GoesB.runN callU_ok (callU_reg _) (Sx.LoopsIn.none _ _ _) (taA_r0 a x y lo hi v1 v2 gx gy z m s e_ v) hB).mono fun e fr' H' h => h
theorem taB_r0 (a : Int) (x y lo hi v1 v2 gx gy z : Nat) (m s e_ : Int) (v : Nat → Nat) (c0 : (!Sx.finD x) = false) (c1 : (!Sx.finD y) = false) (c2 : (!Sx.flt x y) = false) (c3 : decide (m < (0 : Int)) = true) : Sx.PieceN 1 (Sx.Ex.ret) [(0, .fn (Go.Fn.func (33 : Go.FuncId)) [] [.ptr ⟨false, 0, 0, 0⟩]), (1, .flt true x), (2, .flt true y), (3, .int true .i64 m), (8, .flt false 0), (9, .flt false 0), (10, .int false .i64 0), (11, .int false .i64 2)] [(0, .cells true 1 1 (.fn fun j => [.int true .i64 a]))] (piececallU Try.f14 (Sx.nav [1,0] (Sx.bodyOf Try.f14)) (Sx.frL [(0, .fn (.func 33) [] [.ptr ⟨false, 0, 0, 0⟩]), (1, .flt true x), (2, .flt true y), (3, .int true .i64 m), (8, .flt false 0), (9, .flt false 0), (10, .int false .i64 0), (11, .int false .i64 0)]) (Sx.hpL [(0, .cells true 1 1 (.fn fun j => [.int true .i64 a]))]) 1 [false, false, false, true]) := Sx.eqn (q := ((((True ∧ ((!Sx.finD x) = false)) ∧ ((!Sx.finD y) = false)) ∧ ((!Sx.flt x y) = false)) ∧ (decide (m < (0 : Int)) = true))) (by kernel_rfl) ⟨⟨⟨⟨trivial, c0⟩, c1⟩, c2⟩, c3⟩
theorem taB_r1 (a : Int) (x y lo hi v1 v2 gx gy z : Nat) (m s e_ : Int) (v : Nat → Nat) (c0 : (!Sx.finD x) = false) (c1 : (!Sx.finD y) = false) (c2 : (!Sx.flt x y) = false) (c3 : decide (m < (0 : Int)) = false) (c4 : decide ((4096 : Int) < m) = true) : Sx.PieceN 1 (Sx.Ex.ret) [(0, .fn (Go.Fn.func (33 : Go.FuncId)) [] [.ptr ⟨false, 0, 0, 0⟩]), (1, .flt true x), (2, .flt true y), (3, .int true .i64 m), (8, .flt false 0), (9, .flt false 0), (10, .int false .i64 0), (11, .int false .i64 2)] [(0, .cells true 1 1 (.fn fun j => [.int true .i64 a]))] (piececallU Try.f14 (Sx.nav [1,0] (Sx.bodyOf Try.f14)) (Sx.frL [(0, .fn (.func 33) [] [.ptr ⟨false, 0, 0, 0⟩]), (1, .flt true x), (2, .flt true y), (3, .int true .i64 m), (8, .flt false 0), (9, .flt false 0), (10, .int false .i64 0), (11, .int false .i64 0)]) (Sx.hpL [(0, .cells true 1 1 (.fn fun j => [.int true .i64 a]))]) 1 [false, false, false, false, true]) := Sx.eqn (q := (((((True ∧ ((!Sx.finD x) = false)) ∧ ((!Sx.finD y) = false)) ∧ ((!Sx.flt x y) = false)) ∧ (decide (m < (0 : Int)) = false)) ∧ (decide ((4096 : Int) < m) = true))) (by kernel_rfl) ⟨⟨⟨⟨⟨trivial, c0⟩, c1⟩, c2⟩, c3⟩, c4⟩
theorem taB_r2 (a : Int) (x y lo hi v1 v2 gx gy z : Nat) (m s e_ : Int) (v : Nat → Nat) (c0 : (!Sx.finD x) = false) (c1 : (!Sx.finD y) = false) (c2 : (!Sx.flt x y) = false) (c3 : decide (m < (0 : Int)) = false) (c4 : decide ((4096 : Int) < m) = false) : Sx.PieceN 1 (Sx.Ex.normal) [(0, .fn (Go.Fn.func (33 : Go.FuncId)) [] [.ptr ⟨false, 0, 0, 0⟩]), (1, .flt true x), (2, .flt true y), (3, .int true .i64 m), (8, .flt false 0), (9, .flt false 0), (10, .int false .i64 0), (11, .int false .i64 0)] [(0, .cells true 1 1 (.fn fun j => [.int true .i64 a]))] (piececallU Try.f14 (Sx.nav [1,0] (Sx.bodyOf Try.f14)) (Sx.frL [(0, .fn (.func 33) [] [.ptr ⟨false, 0, 0, 0⟩]), (1, .flt true x), (2, .flt true y), (3, .int true .i64 m), (8, .flt false 0), (9, .flt false 0), (10, .int false .i64 0), (11, .int false .i64 0)]) (Sx.hpL [(0, .cells true 1 1 (.fn fun j => [.int true .i64 a]))]) 1 [false, false, false, false, false]) := Sx.eqn (q := (((((True ∧ ((!Sx.finD x) = false)) ∧ ((!Sx.finD y) = false)) ∧ ((!Sx.flt x y) = false)) ∧ (decide (m < (0 : Int)) = false)) ∧ (decide ((4096 : Int) < m) = false))) (by kernel_rfl) ⟨⟨⟨⟨⟨trivial, c0⟩, c1⟩, c2⟩, c3⟩, c4⟩
theorem taB_r3 (a : Int) (x y lo hi v1 v2 gx gy z : Nat) (m s e_ : Int) (v : Nat → Nat) (c0 : (!Sx.finD x) = false) (c1 : (!Sx.finD y) = false) (c2 : (!Sx.flt x y) = true) : Sx.PieceN 1 (Sx.Ex.ret) [(0, .fn (Go.Fn.func (33 : Go.FuncId)) [] [.ptr ⟨false, 0, 0, 0⟩]), (1, .flt true x), (2, .flt true y), (3, .int true .i64 m), (8, .flt false 0), (9, .flt false 0), (10, .int false .i64 0), (11, .int false .i64 2)] [(0, .cells true 1 1 (.fn fun j => [.int true .i64 a]))] (piececallU Try.f14 (Sx.nav [1,0] (Sx.bodyOf Try.f14)) (Sx.frL [(0, .fn (.func 33) [] [.ptr ⟨false, 0, 0, 0⟩]), (1, .flt true x), (2, .flt true y), (3, .int true .i64 m), (8, .flt false 0), (9, .flt false 0), (10, .int false .i64 0), (11, .int false .i64 0)]) (Sx.hpL [(0, .cells true 1 1 (.fn fun j => [.int true .i64 a]))]) 1 [false, false, true]) := Sx.eqn (q := (((True ∧ ((!Sx.finD x) = false)) ∧ ((!Sx.finD y) = false)) ∧ ((!Sx.flt x y) = true))) (by kernel_rfl) ⟨⟨⟨trivial, c0⟩, c1⟩, c2⟩
theorem taB_r4 (a : Int) (x y lo hi v1 v2 gx gy z : Nat) (m s e_ : Int) (v : Nat → Nat) (c0 : (!Sx.finD x) = false) (c1 : (!Sx.finD y) = true) : Sx.PieceN 1 (Sx.Ex.ret) [(0, .fn (Go.Fn.func (33 : Go.FuncId)) [] [.ptr ⟨false, 0, 0, 0⟩]), (1, .flt true x), (2, .flt true y), (3, .int true .i64 m), (8, .flt false 0), (9, .flt false 0), (10, .int false .i64 0), (11, .int false .i64 5)] [(0, .cells true 1 1 (.fn fun j => [.int true .i64 a]))] (piececallU Try.f14 (Sx.nav [1,0] (Sx.bodyOf Try.f14)) (Sx.frL [(0, .fn (.func 33) [] [.ptr ⟨false, 0, 0, 0⟩]), (1, .flt true x), (2, .flt true y), (3, .int true .i64 m), (8, .flt false 0), (9, .flt false 0), (10, .int false .i64 0), (11, .int false .i64 0)]) (Sx.hpL [(0, .cells true 1 1 (.fn fun j => [.int true .i64 a]))]) 1 [false, true]) := Sx.eqn (q := ((True ∧ ((!Sx.finD x) = false)) ∧ ((!Sx.finD y) = true))) (by kernel_rfl) ⟨⟨trivial, c0⟩, c1⟩
theorem taB_r5 (a : Int) (x y lo hi v1 v2 gx gy z : Nat) (m s e_ : Int) (v : Nat → Nat) (c0 : (!Sx.finD x) = true) : Sx.PieceN 1 (Sx.Ex.ret) [(0, .fn (Go.Fn.func (33 : Go.FuncId)) [] [.ptr ⟨false, 0, 0, 0⟩]), (1, .flt true x), (2, .flt true y), (3, .int true .i64 m), (8, .flt false 0), (9, .flt false 0), (10, .int false .i64 0), (11, .int false .i64 5)] [(0, .cells true 1 1 (.fn fun j => [.int true .i64 a]))] (piececallU Try.f14 (Sx.nav [1,0] (Sx.bodyOf Try.f14)) (Sx.frL [(0, .fn (.func 33) [] [.ptr ⟨false, 0, 0, 0⟩]), (1, .flt true x), (2, .flt true y), (3, .int true .i64 m), (8, .flt false 0), (9, .flt false 0), (10, .int false .i64 0), (11, .int false .i64 0)]) (Sx.hpL [(0, .cells true 1 1 (.fn fun j => [.int true .i64 a]))]) 1 [true]) := Sx.eqn (q := (True ∧ ((!Sx.finD x) = true))) (by kernel_rfl) ⟨trivial, c0⟩
theorem taB (B : Nat) (hB : B ≤ 1) (a : Int) (x y lo hi v1 v2 gx gy z : Nat) (m s e_ : Int) (v : Nat → Nat) : Sx.GoesB Try.prog (Sx.nav [1,0] (Sx.bodyOf Try.f14)) Try.f14.ntmps B 1 1 (Sx.frL [(0, .fn (.func 33) [] [.ptr ⟨false, 0, 0, 0⟩]), (1, .flt true x), (2, .flt true y), (3, .int true .i64 m), (8, .flt false 0), (9, .flt false 0), (10, .int false .i64 0), (11, .int false .i64 0)]) (Sx.hpL [(0, .cells true 1 1 (.fn fun j => [.int true .i64 a]))]) fun e fr' H' => (cond (Sx.finD x) (cond (Sx.finD y) (cond (Sx.flt x y) (cond (decide (m < (0 : Int))) (e = .ret ∧ fr' = Sx.frL [(0, .fn (Go.Fn.func (33 : Go.FuncId)) [] [.ptr ⟨false, 0, 0, 0⟩]), (1, .flt true x), (2, .flt true y), (3, .int true .i64 m), (8, .flt false 0), (9, .flt false 0), (10, .int false .i64 0), (11, .int false .i64 2)] ∧ H' = Sx.hpL [(0, .cells true 1 1 (.fn fun j => [.int true .i64 a]))]) (cond (decide ((4096 : Int) < m)) (e = .ret ∧ fr' = Sx.frL [(0, .fn (Go.Fn.func (33 : Go.FuncId)) [] [.ptr ⟨false, 0, 0, 0⟩]), (1, .flt true x), (2, .flt true y), (3, .int true .i64 m), (8, .flt false 0), (9, .flt false 0), (10, .int false .i64 0), (11, .int false .i64 2)] ∧ H' = Sx.hpL [(0, .cells true 1 1 (.fn fun j => [.int true .i64 a]))]) (e = .normal ∧ fr' = Sx.frL [(0, .fn (Go.Fn.func (33 : Go.FuncId)) [] [.ptr ⟨false, 0, 0, 0⟩]), (1, .flt true x), (2, .flt true y), (3, .int true .i64 m), (8, .flt false 0), (9, .flt false 0), (10, .int false .i64 0), (11, .int false .i64 0)] ∧ H' = Sx.hpL [(0, .cells true 1 1 (.fn fun j => [.int true .i64 a]))]))) (e = .ret ∧ fr' = Sx.frL [(0, .fn (Go.Fn.func (33 : Go.FuncId)) [] [.ptr ⟨false, 0, 0, 0⟩]), (1, .flt true x), (2, .flt true y), (3, .int true .i64 m), (8, .flt false 0), (9, .flt false 0), (10, .int false .i64 0), (11, .int false .i64 2)] ∧ H' = Sx.hpL [(0, .cells true 1 1 (.fn fun j => [.int true .i64 a]))])) (e = .ret ∧ fr' = Sx.frL [(0, .fn (Go.Fn.func (33 : Go.FuncId)) [] [.ptr ⟨false, 0, 0, 0⟩]), (1, .flt true x), (2, .flt true y), (3, .int true .i64 m), (8, .flt false 0), (9, .flt false 0), (10, .int false .i64 0), (11, .int false .i64 5)] ∧ H' = Sx.hpL [(0, .cells true 1 1 (.fn fun j => [.int true .i64 a]))])) (e = .ret ∧ fr' = Sx.frL [(0, .fn (Go.Fn.func (33 : Go.FuncId)) [] [.ptr ⟨false, 0, 0, 0⟩]), (1, .flt true x), (2, .flt true y), (3, .int true .i64 m), (8, .flt false 0), (9, .flt false 0), (10, .int false .i64 0), (11, .int false .i64 5)] ∧ H' = Sx.hpL [(0, .cells true 1 1 (.fn fun j => [.int true .i64 a]))])) := by
 cases t0 : Sx.finD x with
 | true =>
  cases t1 : Sx.finD y with
  | true =>
   cases t2 : Sx.flt x y with
   | true =>
    cases t3 : decide (m < (0 : Int)) with
    | true =>
     exact (Sx.GoesB.runN callU_ok (callU_reg _) (Sx.LoopsIn.none _ _ _) (taB_r0 a x y lo hi v1 v2 gx gy z m s e_ v (by rw [t0]; rfl) (by rw [t1]; rfl) (by rw [t2]; rfl) t3) hB).mono fun e fr' H' h => by first | (simp only [t0, t1, t2, t3, cond_true, cond_false]; exact h) | (simp only [t0, t1, t2, t3, cond_true, cond_false] at h ⊢; exact h)
    | false =>
     cases t4 : decide ((4096 : Int) < m) with
     | true =>
      exact (Sx.GoesB.runN callU_ok (callU_reg _) (Sx.LoopsIn.none _ _ _) (taB_r1 a x y lo hi v1 v2 gx gy z m s e_ v (by rw [t0]; rfl) (by rw [t1]; rfl) (by rw [t2]; rfl) t3 t4) hB).mono fun e fr' H' h => by first | (simp only [t0, t1, t2, t3, t4, cond_true, cond_false]; exact h) | (simp only [t0, t1, t2, t3, t4, cond_true, cond_false] at h ⊢; exact h)
     | false =>
      exact (Sx.GoesB.runN callU_ok (callU_reg _) (Sx.LoopsIn.none _ _ _) (taB_r2 a x y lo hi v1 v2 gx gy z m s e_ v (by rw [t0]; rfl) (by rw [t1]; rfl) (by rw [t2]; rfl) t3 t4) hB).mono fun e fr' H' h => by first | (simp only [t0, t1, t2, t3, t4, cond_true, cond_false]; exact h) | (simp only [t0, t1, t2, t3, t4, cond_true, cond_false] at h ⊢; exact h)
   | false =>
    exact (Sx.GoesB.runN callU_ok (callU_reg _) (Sx.LoopsIn.none _ _ _) (taB_r3 a x y lo hi v1 v2 gx gy z m s e_ v (by rw [t0]; rfl) (by rw [t1]; rfl) (by rw [t2]; rfl)) hB).mono fun e fr' H' h => by first | (simp only [t0, t1, t2, cond_true, cond_false]; exact h) | (simp only [t0, t1, t2, cond_true, cond_false] at h ⊢; exact h)
  | false =>
   exact (Sx.GoesB.runN callU_ok (callU_reg _) (Sx.LoopsIn.none _ _ _) (taB_r4 a x y lo hi v1 v2 gx gy z m s e_ v (by rw [t0]; rfl) (by rw [t1]; rfl)) hB).mono fun e fr' H' h => by first | (simp only [t0, t1, cond_true, cond_false]; exact h) | (simp only [t0, t1, cond_true, cond_false] at h ⊢; exact h)
 | false =>
  exact (Sx.GoesB.runN callU_ok (callU_reg _) (Sx.LoopsIn.none _ _ _) (taB_r5 a x y lo hi v1 v2 gx gy z m s e_ v (by rw [t0]; rfl)) hB).mono fun e fr' H' h => by first | (simp only [t0, cond_true, cond_false]; exact h) | (simp only [t0, cond_true, cond_false] at h ⊢; exact h)
theorem taC_r0 (a : Int) (x y lo hi v1 v2 gx gy z : Nat) (m s e_ : Int) (v : Nat → Nat) : Sx.PieceN 1 (Sx.Ex.normal) [(0, .fn (Go.Fn.func (33 : Go.FuncId)) [] [.ptr ⟨false, 0, 0, 0⟩]), (3, .int true .i64 m), (8, .flt false 0), (9, .flt false 0), (10, .int false .i64 0), (11, .int false .i64 0), (13, .flt true x), (14, .flt true y)] [(0, .cells true 1 1 (.fn fun j => [.int true .i64 a]))] (piececallU Try.f14 (Sx.nav [1,1,0] (Sx.bodyOf Try.f14)) (Sx.frL [(0, .fn (.func 33) [] [.ptr ⟨false, 0, 0, 0⟩]), (1, .flt true x), (2, .flt true y), (3, .int true .i64 m), (8, .flt false 0), (9, .flt false 0), (10, .int false .i64 0), (11, .int false .i64 0)]) (Sx.hpL [(0, .cells true 1 1 (.fn fun j => [.int true .i64 a]))]) 1 []) := Sx.eqn (q := True) (by kernel_rfl) trivial
theorem taC (B : Nat) (hB : B ≤ 1) (a : Int) (x y lo hi v1 v2 gx gy z : Nat) (m s e_ : Int) (v : Nat → Nat) : Sx.GoesB Try.prog (Sx.nav [1,1,0] (Sx.bodyOf Try.f14)) Try.f14.ntmps B 1 1 (Sx.frL [(0, .fn (.func 33) [] [.ptr ⟨false, 0, 0, 0⟩]), (1, .flt true x), (2, .flt true y), (3, .int true .i64 m), (8, .flt false 0), (9, .flt false 0), (10, .int false .i64 0), (11, .int false .i64 0)]) (Sx.hpL [(0, .cells true 1 1 (.fn fun j => [.int true .i64 a]))]) fun e fr' H' => (e = .normal ∧ fr' = Sx.frL [(0, .fn (Go.Fn.func (33 : Go.FuncId)) [] [.ptr ⟨false, 0, 0, 0⟩]), (3, .int true .i64 m), (8, .flt false 0), (9, .flt false 0), (10, .int false .i64 0), (11, .int false .i64 0), (13, .flt true x), (14, .flt true y)] ∧ H' = Sx.hpL [(0, .cells true 1 1 (.fn fun j => [.int true .i64 a]))]) := by
 exact (Sx.GoesB.runN callU_ok (callU_reg _) (Sx.LoopsIn.none _ _ _) (taC_r0 a x y lo hi v1 v2 gx gy z m s e_ v) hB).mono fun e fr' H' h => h
theorem taL0_r0 (a : Int) (x y lo hi v1 v2 gx gy z : Nat) (m s e_ : Int) (v : Nat → Nat) (c0 : decide (s < m) = true) (c1 : lo < (18446744073709551616 : Nat)) (c2 : Sx.finD lo = true) (c3 : hi < (18446744073709551616 : Nat)) (c4 : Sx.finD hi = true) (c5 : Sx.rk lo ≤ Sx.rk hi) (c6 : decide ((2 : Int) < Sx.rk hi - Sx.rk lo) = true) : Sx.PieceN 1 (Sx.Ex.normal) [(0, .fn (Go.Fn.func (33 : Go.FuncId)) [] [.ptr ⟨false, 0, 0, 0⟩]), (3, .int true .i64 m), (8, .flt false 0), (9, .flt false 0), (10, .int true .i64 s), (11, .int false .i64 0), (13, .flt true lo), (14, .flt true hi)] [(0, .cells true 1 1 (.fn fun j => [.int true .i64 a]))] (piececallU Try.f14 (Sx.nav [1,1,1,0,0,0,0] (Sx.bodyOf Try.f14)) (Sx.frL [(0, .fn (.func 33) [] [.ptr ⟨false, 0, 0, 0⟩]), (3, .int true .i64 m), (8, .flt false 0), (9, .flt false 0), (10, .int true .i64 s), (11, .int false .i64 0), (13, .flt true lo), (14, .flt true hi)]) (Sx.hpL [(0, .cells true 1 1 (.fn fun j => [.int true .i64 a]))]) 1 [true, true]) := Sx.eqn (q := (((True ∧ (decide (s < m) = true)) ∧ (((lo < (18446744073709551616 : Nat)) ∧ (Sx.finD lo = true)) ∧ (((hi < (18446744073709551616 : Nat)) ∧ (Sx.finD hi = true)) ∧ (Sx.rk lo ≤ Sx.rk hi)))) ∧ (decide ((2 : Int) < Sx.rk hi - Sx.rk lo) = true))) (by kernel_rfl) ⟨⟨⟨trivial, c0⟩, ⟨⟨c1, c2⟩, ⟨⟨c3, c4⟩, c5⟩⟩⟩, c6⟩
theorem taL0_r1 (a : Int) (x y lo hi v1 v2 gx gy z : Nat) (m s e_ : Int) (v : Nat → Nat) (c0 : decide (s < m) = true) (c1 : lo < (18446744073709551616 : Nat)) (c2 : Sx.finD lo = true) (c3 : hi < (18446744073709551616 : Nat)) (c4 : Sx.finD hi = true) (c5 : Sx.rk lo ≤ Sx.rk hi) (c6 : decide ((2 : Int) < Sx.rk hi - Sx.rk lo) = false) : Sx.PieceN 1 (Sx.Ex.exit (0 : Nat)) [(0, .fn (Go.Fn.func (33 : Go.FuncId)) [] [.ptr ⟨false, 0, 0, 0⟩]), (3, .int true .i64 m), (8, .flt false 0), (9, .flt false 0), (10, .int true .i64 s), (11, .int false .i64 0), (13, .flt true lo), (14, .flt true hi)] [(0, .cells true 1 1 (.fn fun j => [.int true .i64 a]))] (piececallU Try.f14 (Sx.nav [1,1,1,0,0,0,0] (Sx.bodyOf Try.f14)) (Sx.frL [(0, .fn (.func 33) [] [.ptr ⟨false, 0, 0, 0⟩]), (3, .int true .i64 m), (8, .flt false 0), (9, .flt false 0), (10, .int true .i64 s), (11, .int false .i64 0), (13, .flt true lo), (14, .flt true hi)]) (Sx.hpL [(0, .cells true 1 1 (.fn fun j => [.int true .i64 a]))]) 1 [true, false]) := Sx.eqn (q := (((True ∧ (decide (s < m) = true)) ∧ (((lo < (18446744073709551616 : Nat)) ∧ (Sx.finD lo = true)) ∧ (((hi < (18446744073709551616 : Nat)) ∧ (Sx.finD hi = true)) ∧ (Sx.rk lo ≤ Sx.rk hi)))) ∧ (decide ((2 : Int) < Sx.rk hi - Sx.rk lo) = false))) (by kernel_rfl) ⟨⟨⟨trivial, c0⟩, ⟨⟨c1, c2⟩, ⟨⟨c3, c4⟩, c5⟩⟩⟩, c6⟩
theorem taL0_r2 (a : Int) (x y lo hi v1 v2 gx gy z : Nat) (m s e_ : Int) (v : Nat → Nat) (c0 : decide (s < m) = false) : Sx.PieceN 1 (Sx.Ex.exit (0 : Nat)) [(0, .fn (Go.Fn.func (33 : Go.FuncId)) [] [.ptr ⟨false, 0, 0, 0⟩]), (3, .int true .i64 m), (8, .flt false 0), (9, .flt false 0), (10, .int true .i64 s), (11, .int false .i64 0), (13, .flt true lo), (14, .flt true hi)] [(0, .cells true 1 1 (.fn fun j => [.int true .i64 a]))] (piececallU Try.f14 (Sx.nav [1,1,1,0,0,0,0] (Sx.bodyOf Try.f14)) (Sx.frL [(0, .fn (.func 33) [] [.ptr ⟨false, 0, 0, 0⟩]), (3, .int true .i64 m), (8, .flt false 0), (9, .flt false 0), (10, .int true .i64 s), (11, .int false .i64 0), (13, .flt true lo), (14, .flt true hi)]) (Sx.hpL [(0, .cells true 1 1 (.fn fun j => [.int true .i64 a]))]) 1 [false]) := Sx.eqn (q := (True ∧ (decide (s < m) = false))) (by kernel_rfl) ⟨trivial, c0⟩
theorem taL0 (B : Nat) (hB : B ≤ 1) (a : Int) (x y lo hi v1 v2 gx gy z : Nat) (m s e_ : Int) (v : Nat → Nat) (x0 : ((decide (s < m)) = true → (lo < (18446744073709551616 : Nat)))) (x1 : ((decide (s < m)) = true → (Sx.finD lo = true))) (x2 : ((decide (s < m)) = true → (hi < (18446744073709551616 : Nat)))) (x3 : ((decide (s < m)) = true → (Sx.finD hi = true))) (x4 : ((decide (s < m)) = true → ((decide ((2 : Int) < Sx.rk hi - Sx.rk lo)) = false → (Sx.rk lo ≤ Sx.rk hi)))) : Sx.GoesB Try.prog (Sx.nav [1,1,1,0,0,0,0] (Sx.bodyOf Try.f14)) Try.f14.ntmps B 1 1 (Sx.frL [(0, .fn (.func 33) [] [.ptr ⟨false, 0, 0, 0⟩]), (3, .int true .i64 m), (8, .flt false 0), (9, .flt false 0), (10, .int true .i64 s), (11, .int false .i64 0), (13, .flt true lo), (14, .flt true hi)]) (Sx.hpL [(0, .cells true 1 1 (.fn fun j => [.int true .i64 a]))]) fun e fr' H' => (cond (decide (s < m)) (cond (decide ((2 : Int) < Sx.rk hi - Sx.rk lo)) (e = .normal ∧ fr' = Sx.frL [(0, .fn (Go.Fn.func (33 : Go.FuncId)) [] [.ptr ⟨false, 0, 0, 0⟩]), (3, .int true .i64 m), (8, .flt false 0), (9, .flt false 0), (10, .int true .i64 s), (11, .int false .i64 0), (13, .flt true lo), (14, .flt true hi)] ∧ H' = Sx.hpL [(0, .cells true 1 1 (.fn fun j => [.int true .i64 a]))]) (e = .exit 0 ∧ fr' = Sx.frL [(0, .fn (Go.Fn.func (33 : Go.FuncId)) [] [.ptr ⟨false, 0, 0, 0⟩]), (3, .int true .i64 m), (8, .flt false 0), (9, .flt false 0), (10, .int true .i64 s), (11, .int false .i64 0), (13, .flt true lo), (14, .flt true hi)] ∧ H' = Sx.hpL [(0, .cells true 1 1 (.fn fun j => [.int true .i64 a]))])) (e = .exit 0 ∧ fr' = Sx.frL [(0, .fn (Go.Fn.func (33 : Go.FuncId)) [] [.ptr ⟨false, 0, 0, 0⟩]), (3, .int true .i64 m), (8, .flt false 0), (9, .flt false 0), (10, .int true .i64 s), (11, .int false .i64 0), (13, .flt true lo), (14, .flt true hi)] ∧ H' = Sx.hpL [(0, .cells true 1 1 (.fn fun j => [.int true .i64 a]))])) := by
 cases t0 : decide (s < m) with
 | true =>
  cases t1 : decide ((2 : Int) < Sx.rk hi - Sx.rk lo) with
  | true =>
   exact (Sx.GoesB.runN callU_ok (callU_reg _) (Sx.LoopsIn.none _ _ _) (taL0_r0 a x y lo hi v1 v2 gx gy z m s e_ v t0 (x0 t0) (x1 t0) (x2 t0) (x3 t0) (by first | decide | ((try simp only [decide_eq_true_eq, decide_eq_false_iff_not] at t0 t1); (try simp only [List.length_take, List.length_drop]); omega)) t1) hB).mono fun e fr' H' h => by first | (simp only [t0, t1, cond_true, cond_false]; exact h) | (simp only [t0, t1, cond_true, cond_false] at h ⊢; exact h)
  | false =>
   exact (Sx.GoesB.runN callU_ok (callU_reg _) (Sx.LoopsIn.none _ _ _) (taL0_r1 a x y lo hi v1 v2 gx gy z m s e_ v t0 (x0 t0) (x1 t0) (x2 t0) (x3 t0) (x4 t0 t1) t1) hB).mono fun e fr' H' h => by first | (simp only [t0, t1, cond_true, cond_false]; exact h) | (simp only [t0, t1, cond_true, cond_false] at h ⊢; exact h)
 | false =>
  exact (Sx.GoesB.runN callU_ok (callU_reg _) (Sx.LoopsIn.none _ _ _) (taL0_r2 a x y lo hi v1 v2 gx gy z m s e_ v t0) hB).mono fun e fr' H' h => by first | (simp only [t0, cond_true, cond_false]; exact h) | (simp only [t0, cond_true, cond_false] at h ⊢; exact h)
theorem taL1_r0 (a : Int) (x y lo hi v1 v2 gx gy z : Nat) (m s e_ : Int) (v : Nat → Nat) (c0 : lo < (18446744073709551616 : Nat)) (c1 : Sx.finD lo = true) (c2 : hi < (18446744073709551616 : Nat)) (c3 : Sx.finD hi = true) (c4 : Sx.rk lo ≤ Sx.rk hi) (c5 : (3 : Int) ≠ (0 : Int)) (c6 : (-9223372036854775808 : Int) ≤ IntKind.wrap IntKind.u64 (Int.tdiv (Sx.rk hi - Sx.rk lo) (3 : Int))) (c7 : IntKind.wrap IntKind.u64 (Int.tdiv (Sx.rk hi - Sx.rk lo) (3 : Int)) ≤ (9223372036854775807 : Int)) : Sx.PieceN 1 (Sx.Ex.normal) [(0, .fn (Go.Fn.func (33 : Go.FuncId)) [] [.ptr ⟨false, 0, 0, 0⟩]), (3, .int true .i64 m), (8, .flt false 0), (9, .flt false 0), (10, .int true .i64 s), (11, .int false .i64 0), (13, .flt true lo), (14, .flt true hi), (15, .int true .i64 (IntKind.wrap IntKind.u64 (Int.tdiv (Sx.rk hi - Sx.rk lo) (3 : Int))))] [(0, .cells true 1 1 (.fn fun j => [.int true .i64 a]))] (piececallU Try.f14 (Sx.nav [1,1,1,0,0,0,1,0,0] (Sx.bodyOf Try.f14)) (Sx.frL [(0, .fn (.func 33) [] [.ptr ⟨false, 0, 0, 0⟩]), (3, .int true .i64 m), (8, .flt false 0), (9, .flt false 0), (10, .int true .i64 s), (11, .int false .i64 0), (13, .flt true lo), (14, .flt true hi)]) (Sx.hpL [(0, .cells true 1 1 (.fn fun j => [.int true .i64 a]))]) 1 []) := Sx.eqn (q := (((True ∧ (((lo < (18446744073709551616 : Nat)) ∧ (Sx.finD lo = true)) ∧ (((hi < (18446744073709551616 : Nat)) ∧ (Sx.finD hi = true)) ∧ (Sx.rk lo ≤ Sx.rk hi)))) ∧ ((3 : Int) ≠ (0 : Int))) ∧ (((-9223372036854775808 : Int) ≤ IntKind.wrap IntKind.u64 (Int.tdiv (Sx.rk hi - Sx.rk lo) (3 : Int))) ∧ (IntKind.wrap IntKind.u64 (Int.tdiv (Sx.rk hi - Sx.rk lo) (3 : Int)) ≤ (9223372036854775807 : Int))))) (by kernel_rfl) ⟨⟨⟨trivial, ⟨⟨c0, c1⟩, ⟨⟨c2, c3⟩, c4⟩⟩⟩, c5⟩, ⟨c6, c7⟩⟩
theorem taL1 (B : Nat) (hB : B ≤ 1) (a : Int) (x y lo hi v1 v2 gx gy z : Nat) (m s e_ : Int) (v : Nat → Nat) (x0 : (lo < (18446744073709551616 : Nat))) (x1 : (Sx.finD lo = true)) (x2 : (hi < (18446744073709551616 : Nat))) (x3 : (Sx.finD hi = true)) (x4 : (Sx.rk lo ≤ Sx.rk hi)) (x5 : ((-9223372036854775808 : Int) ≤ IntKind.wrap IntKind.u64 (Int.tdiv (Sx.rk hi - Sx.rk lo) (3 : Int)))) (x6 : (IntKind.wrap IntKind.u64 (Int.tdiv (Sx.rk hi - Sx.rk lo) (3 : Int)) ≤ (9223372036854775807 : Int))) : Sx.GoesB Try.prog (Sx.nav [1,1,1,0,0,0,1,0,0] (Sx.bodyOf Try.f14)) Try.f14.ntmps B 1 1 (Sx.frL [(0, .fn (.func 33) [] [.ptr ⟨false, 0, 0, 0⟩]), (3, .int true .i64 m), (8, .flt false 0), (9, .flt false 0), (10, .int true .i64 s), (11, .int false .i64 0), (13, .flt true lo), (14, .flt true hi)]) (Sx.hpL [(0, .cells true 1 1 (.fn fun j => [.int true .i64 a]))]) fun e fr' H' => (e = .normal ∧ fr' = Sx.frL [(0, .fn (Go.Fn.func (33 : Go.FuncId)) [] [.ptr ⟨false, 0, 0, 0⟩]), (3, .int true .i64 m), (8, .flt false 0), (9, .flt false 0), (10, .int true .i64 s), (11, .int false .i64 0), (13, .flt true lo), (14, .flt true hi), (15, .int true .i64 (IntKind.wrap IntKind.u64 (Int.tdiv (Sx.rk hi - Sx.rk lo) (3 : Int))))] ∧ H' = Sx.hpL [(0, .cells true 1 1 (.fn fun j => [.int true .i64 a]))]) := by
 exact (Sx.GoesB.runN callU_ok (callU_reg _) (Sx.LoopsIn.none _ _ _) (taL1_r0 a x y lo hi v1 v2 gx gy z m s e_ v (x0) (x1) (x2) (x3) (x4) (by first | decide | omega) (x5) (x6)) hB).mono fun e fr' H' h => h
theorem taL2_r0 (a : Int) (x y lo hi v1 v2 gx gy z : Nat) (m s e_ : Int) (v : Nat → Nat) (c0 : Sx.isnan lo = false) (c1 : (-9223372036854775808 : Int) ≤ Sx.rk lo + (↑z : Int)) (c2 : Sx.rk lo + (↑z : Int) ≤ (9223372036854775807 : Int)) (c3 : (-9218868437227405312 : Int) ≤ Sx.rk lo + (↑z : Int)) (c4 : Sx.rk lo + (↑z : Int) ≤ (9218868437227405312 : Int)) (c5 : Sx.isnan hi = false) (c6 : (-9223372036854775808 : Int) ≤ Sx.rk hi - (↑z : Int)) (c7 : Sx.rk hi - (↑z : Int) ≤ (9223372036854775807 : Int)) (c8 : (-9218868437227405312 : Int) ≤ Sx.rk hi - (↑z : Int)) (c9 : Sx.rk hi - (↑z : Int) ≤ (9218868437227405312 : Int)) : Sx.PieceN 1 (Sx.Ex.normal) [(0, .fn (Go.Fn.func (33 : Go.FuncId)) [] [.ptr ⟨false, 0, 0, 0⟩]), (3, .int true .i64 m), (8, .flt false 0), (9, .flt false 0), (10, .int true .i64 s), (11, .int false .i64 0), (13, .flt true lo), (14, .flt true hi), (16, .raw true (Sx.wd (Sx.rk lo + (↑z : Int)))), (17, .raw true (Sx.wd (Sx.rk hi - (↑z : Int))))] [(0, .cells true 1 1 (.fn fun j => [.int true .i64 a]))] (piececallU Try.f14 (Sx.nav [1,1,1,0,0,0,1,0,1,0] (Sx.bodyOf Try.f14)) (Sx.frL [(0, .fn (.func 33) [] [.ptr ⟨false, 0, 0, 0⟩]), (3, .int true .i64 m), (8, .flt false 0), (9, .flt false 0), (10, .int true .i64 s), (11, .int false .i64 0), (13, .flt true lo), (14, .flt true hi), (15, .int true .i64 z)]) (Sx.hpL [(0, .cells true 1 1 (.fn fun j => [.int true .i64 a]))]) 1 []) := Sx.eqn (q := ((((((True ∧ (Sx.isnan lo = false)) ∧ (((-9223372036854775808 : Int) ≤ Sx.rk lo + (↑z : Int)) ∧ (Sx.rk lo + (↑z : Int) ≤ (9223372036854775807 : Int)))) ∧ (((-9218868437227405312 : Int) ≤ Sx.rk lo + (↑z : Int)) ∧ (Sx.rk lo + (↑z : Int) ≤ (9218868437227405312 : Int)))) ∧ (Sx.isnan hi = false)) ∧ (((-9223372036854775808 : Int) ≤ Sx.rk hi - (↑z : Int)) ∧ (Sx.rk hi - (↑z : Int) ≤ (9223372036854775807 : Int)))) ∧ (((-9218868437227405312 : Int) ≤ Sx.rk hi - (↑z : Int)) ∧ (Sx.rk hi - (↑z : Int) ≤ (9218868437227405312 : Int))))) (by kernel_rfl) ⟨⟨⟨⟨⟨⟨trivial, c0⟩, ⟨c1, c2⟩⟩, ⟨c3, c4⟩⟩, c5⟩, ⟨c6, c7⟩⟩, ⟨c8, c9⟩⟩
theorem taL2 (B : Nat) (hB : B ≤ 1) (a : Int) (x y lo hi v1 v2 gx gy z : Nat) (m s e_ : Int) (v : Nat → Nat) (x0 : (Sx.isnan lo = false)) (x1 : ((-9223372036854775808 : Int) ≤ Sx.rk lo + (↑z : Int))) (x2 : (Sx.rk lo + (↑z : Int) ≤ (9223372036854775807 : Int))) (x3 : ((-9218868437227405312 : Int) ≤ Sx.rk lo + (↑z : Int))) (x4 : (Sx.rk lo + (↑z : Int) ≤ (9218868437227405312 : Int))) (x5 : (Sx.isnan hi = false)) (x6 : ((-9223372036854775808 : Int) ≤ Sx.rk hi - (↑z : Int))) (x7 : (Sx.rk hi - (↑z : Int) ≤ (9223372036854775807 : Int))) (x8 : ((-9218868437227405312 : Int) ≤ Sx.rk hi - (↑z : Int))) (x9 : (Sx.rk hi - (↑z : Int) ≤ (9218868437227405312 : Int))) : Sx.GoesB Try.prog (Sx.nav [1,1,1,0,0,0,1,0,1,0] (Sx.bodyOf Try.f14)) Try.f14.ntmps B 1 1 (Sx.frL [(0, .fn (.func 33) [] [.ptr ⟨false, 0, 0, 0⟩]), (3, .int true .i64 m), (8, .flt false 0), (9, .flt false 0), (10, .int true .i64 s), (11, .int false .i64 0), (13, .flt true lo), (14, .flt true hi), (15, .int true .i64 z)]) (Sx.hpL [(0, .cells true 1 1 (.fn fun j => [.int true .i64 a]))]) fun e fr' H' => (e = .normal ∧ fr' = Sx.frL [(0, .fn (Go.Fn.func (33 : Go.FuncId)) [] [.ptr ⟨false, 0, 0, 0⟩]), (3, .int true .i64 m), (8, .flt false 0), (9, .flt false 0), (10, .int true .i64 s), (11, .int false .i64 0), (13, .flt true lo), (14, .flt true hi), (16, .raw true (Sx.wd (Sx.rk lo + (↑z : Int)))), (17, .raw true (Sx.wd (Sx.rk hi - (↑z : Int))))] ∧ H' = Sx.hpL [(0, .cells true 1 1 (.fn fun j => [.int true .i64 a]))]) := by
 exact (Sx.GoesB.runN callU_ok (callU_reg _) (Sx.LoopsIn.none _ _ _) (taL2_r0 a x y lo hi v1 v2 gx gy z m s e_ v (x0) (x1) (x2) (x3) (x4) (x5) (x6) (x7) (x8) (x9)) hB).mono fun e fr' H' h => h
theorem taL3_r0 (a : Int) (x y lo hi v1 v2 gx gy z : Nat) (m s e_ : Int) (v : Nat → Nat) (c0 : v1 < (18446744073709551616 : Nat)) (c1 : Sx.finD v1 = true) (c2 : (-4503599627370496 : Int) ≤ Sx.rk v1 - a) (c3 : Sx.rk v1 - a ≤ (4503599627370496 : Int)) (c4 : v2 < (18446744073709551616 : Nat)) (c5 : Sx.finD v2 = true) (c6 : (-4503599627370496 : Int) ≤ Sx.rk v2 - a) (c7 : Sx.rk v2 - a ≤ (4503599627370496 : Int)) (c8 : (-9223372036854775808 : Int) ≤ s + (1 : Int)) (c9 : s + (1 : Int) ≤ (9223372036854775807 : Int)) (c10 : (!Sx.feq (TV a v1) (TV a v1)) = false) (c11 : (!Sx.feq (TV a v2) (TV a v2)) = false) (c12 : Sx.flt (TV a v1) (TV a v2) = true) : Sx.PieceN 1 (Sx.Ex.normal) [(0, .fn (Go.Fn.func (33 : Go.FuncId)) [] [.ptr ⟨false, 0, 0, 0⟩]), (3, .int true .i64 m), (8, .flt false 0), (9, .flt false 0), (10, .int true .i64 (s + (1 : Int))), (11, .int false .i64 0), (13, .flt true v1), (14, .flt true hi)] [(0, .cells true 1 1 (.fn fun j => [.int true .i64 a]))] (piececallU Try.f14 (Sx.nav [1,1,1,0,0,0,1,0,1,1] (Sx.bodyOf Try.f14)) (Sx.frL [(0, .fn (.func 33) [] [.ptr ⟨false, 0, 0, 0⟩]), (3, .int true .i64 m), (8, .flt false 0), (9, .flt false 0), (10, .int true .i64 s), (11, .int false .i64 0), (13, .flt true lo), (14, .flt true hi), (16, .flt true v1), (17, .flt true v2)]) (Sx.hpL [(0, .cells true 1 1 (.fn fun j => [.int true .i64 a]))]) 1 [false, false, true]) := Sx.eqn (q := ((((((True ∧ (((v1 < (18446744073709551616 : Nat)) ∧ (Sx.finD v1 = true)) ∧ (((-4503599627370496 : Int) ≤ Sx.rk v1 - a) ∧ (Sx.rk v1 - a ≤ (4503599627370496 : Int))))) ∧ (((v2 < (18446744073709551616 : Nat)) ∧ (Sx.finD v2 = true)) ∧ (((-4503599627370496 : Int) ≤ Sx.rk v2 - a) ∧ (Sx.rk v2 - a ≤ (4503599627370496 : Int))))) ∧ (((-9223372036854775808 : Int) ≤ s + (1 : Int)) ∧ (s + (1 : Int) ≤ (9223372036854775807 : Int)))) ∧ ((!Sx.feq (TV a v1) (TV a v1)) = false)) ∧ ((!Sx.feq (TV a v2) (TV a v2)) = false)) ∧ (Sx.flt (TV a v1) (TV a v2) = true))) (by kernel_rfl) ⟨⟨⟨⟨⟨⟨trivial, ⟨⟨c0, c1⟩, ⟨c2, c3⟩⟩⟩, ⟨⟨c4, c5⟩, ⟨c6, c7⟩⟩⟩, ⟨c8, c9⟩⟩, c10⟩, c11⟩, c12⟩
theorem taL3_r1 (a : Int) (x y lo hi v1 v2 gx gy z : Nat) (m s e_ : Int) (v : Nat → Nat) (c0 : v1 < (18446744073709551616 : Nat)) (c1 : Sx.finD v1 = true) (c2 : (-4503599627370496 : Int) ≤ Sx.rk v1 - a) (c3 : Sx.rk v1 - a ≤ (4503599627370496 : Int)) (c4 : v2 < (18446744073709551616 : Nat)) (c5 : Sx.finD v2 = true) (c6 : (-4503599627370496 : Int) ≤ Sx.rk v2 - a) (c7 : Sx.rk v2 - a ≤ (4503599627370496 : Int)) (c8 : (-9223372036854775808 : Int) ≤ s + (1 : Int)) (c9 : s + (1 : Int) ≤ (9223372036854775807 : Int)) (c10 : (!Sx.feq (TV a v1) (TV a v1)) = false) (c11 : (!Sx.feq (TV a v2) (TV a v2)) = false) (c12 : Sx.flt (TV a v1) (TV a v2) = false) : Sx.PieceN 1 (Sx.Ex.normal) [(0, .fn (Go.Fn.func (33 : Go.FuncId)) [] [.ptr ⟨false, 0, 0, 0⟩]), (3, .int true .i64 m), (8, .flt false 0), (9, .flt false 0), (10, .int true .i64 (s + (1 : Int))), (11, .int false .i64 0), (13, .flt true lo), (14, .flt true v2)] [(0, .cells true 1 1 (.fn fun j => [.int true .i64 a]))] (piececallU Try.f14 (Sx.nav [1,1,1,0,0,0,1,0,1,1] (Sx.bodyOf Try.f14)) (Sx.frL [(0, .fn (.func 33) [] [.ptr ⟨false, 0, 0, 0⟩]), (3, .int true .i64 m), (8, .flt false 0), (9, .flt false 0), (10, .int true .i64 s), (11, .int false .i64 0), (13, .flt true lo), (14, .flt true hi), (16, .flt true v1), (17, .flt true v2)]) (Sx.hpL [(0, .cells true 1 1 (.fn fun j => [.int true .i64 a]))]) 1 [false, false, false]) := Sx.eqn (q := ((((((True ∧ (((v1 < (18446744073709551616 : Nat)) ∧ (Sx.finD v1 = true)) ∧ (((-4503599627370496 : Int) ≤ Sx.rk v1 - a) ∧ (Sx.rk v1 - a ≤ (4503599627370496 : Int))))) ∧ (((v2 < (18446744073709551616 : Nat)) ∧ (Sx.finD v2 = true)) ∧ (((-4503599627370496 : Int) ≤ Sx.rk v2 - a) ∧ (Sx.rk v2 - a ≤ (4503599627370496 : Int))))) ∧ (((-9223372036854775808 : Int) ≤ s + (1 : Int)) ∧ (s + (1 : Int) ≤ (9223372036854775807 : Int)))) ∧ ((!Sx.feq (TV a v1) (TV a v1)) = false)) ∧ ((!Sx.feq (TV a v2) (TV a v2)) = false)) ∧ (Sx.flt (TV a v1) (TV a v2) = false))) (by kernel_rfl) ⟨⟨⟨⟨⟨⟨trivial, ⟨⟨c0, c1⟩, ⟨c2, c3⟩⟩⟩, ⟨⟨c4, c5⟩, ⟨c6, c7⟩⟩⟩, ⟨c8, c9⟩⟩, c10⟩, c11⟩, c12⟩
theorem taL3_r2 (a : Int) (x y lo hi v1 v2 gx gy z : Nat) (m s e_ : Int) (v : Nat → Nat) (c0 : v1 < (18446744073709551616 : Nat)) (c1 : Sx.finD v1 = true) (c2 : (-4503599627370496 : Int) ≤ Sx.rk v1 - a) (c3 : Sx.rk v1 - a ≤ (4503599627370496 : Int)) (c4 : v2 < (18446744073709551616 : Nat)) (c5 : Sx.finD v2 = true) (c6 : (-4503599627370496 : Int) ≤ Sx.rk v2 - a) (c7 : Sx.rk v2 - a ≤ (4503599627370496 : Int)) (c8 : (-9223372036854775808 : Int) ≤ s + (1 : Int)) (c9 : s + (1 : Int) ≤ (9223372036854775807 : Int)) (c10 : (!Sx.feq (TV a v1) (TV a v1)) = false) (c11 : (!Sx.feq (TV a v2) (TV a v2)) = true) : Sx.PieceN 1 (Sx.Ex.ret) [(0, .fn (Go.Fn.func (33 : Go.FuncId)) [] [.ptr ⟨false, 0, 0, 0⟩]), (3, .int true .i64 m), (8, .flt false 0), (9, .flt false 0), (10, .int false .i64 0), (11, .int false .i64 5), (13, .flt true lo), (14, .flt true hi)] [(0, .cells true 1 1 (.fn fun j => [.int true .i64 a]))] (piececallU Try.f14 (Sx.nav [1,1,1,0,0,0,1,0,1,1] (Sx.bodyOf Try.f14)) (Sx.frL [(0, .fn (.func 33) [] [.ptr ⟨false, 0, 0, 0⟩]), (3, .int true .i64 m), (8, .flt false 0), (9, .flt false 0), (10, .int true .i64 s), (11, .int false .i64 0), (13, .flt true lo), (14, .flt true hi), (16, .flt true v1), (17, .flt true v2)]) (Sx.hpL [(0, .cells true 1 1 (.fn fun j => [.int true .i64 a]))]) 1 [false, true]) := Sx.eqn (q := (((((True ∧ (((v1 < (18446744073709551616 : Nat)) ∧ (Sx.finD v1 = true)) ∧ (((-4503599627370496 : Int) ≤ Sx.rk v1 - a) ∧ (Sx.rk v1 - a ≤ (4503599627370496 : Int))))) ∧ (((v2 < (18446744073709551616 : Nat)) ∧ (Sx.finD v2 = true)) ∧ (((-4503599627370496 : Int) ≤ Sx.rk v2 - a) ∧ (Sx.rk v2 - a ≤ (4503599627370496 : Int))))) ∧ (((-9223372036854775808 : Int) ≤ s + (1 : Int)) ∧ (s + (1 : Int) ≤ (9223372036854775807 : Int)))) ∧ ((!Sx.feq (TV a v1) (TV a v1)) = false)) ∧ ((!Sx.feq (TV a v2) (TV a v2)) = true))) (by kernel_rfl) ⟨⟨⟨⟨⟨trivial, ⟨⟨c0, c1⟩, ⟨c2, c3⟩⟩⟩, ⟨⟨c4, c5⟩, ⟨c6, c7⟩⟩⟩, ⟨c8, c9⟩⟩, c10⟩, c11⟩
theorem taL3_r3 (a : Int) (x y lo hi v1 v2 gx gy z : Nat) (m s e_ : Int) (v : Nat → Nat) (c0 : v1 < (18446744073709551616 : Nat)) (c1 : Sx.finD v1 = true) (c2 : (-4503599627370496 : Int) ≤ Sx.rk v1 - a) (c3 : Sx.rk v1 - a ≤ (4503599627370496 : Int)) (c4 : v2 < (18446744073709551616 : Nat)) (c5 : Sx.finD v2 = true) (c6 : (-4503599627370496 : Int) ≤ Sx.rk v2 - a) (c7 : Sx.rk v2 - a ≤ (4503599627370496 : Int)) (c8 : (-9223372036854775808 : Int) ≤ s + (1 : Int)) (c9 : s + (1 : Int) ≤ (9223372036854775807 : Int)) (c10 : (!Sx.feq (TV a v1) (TV a v1)) = true) : Sx.PieceN 1 (Sx.Ex.ret) [(0, .fn (Go.Fn.func (33 : Go.FuncId)) [] [.ptr ⟨false, 0, 0, 0⟩]), (3, .int true .i64 m), (8, .flt false 0), (9, .flt false 0), (10, .int false .i64 0), (11, .int false .i64 5), (13, .flt true lo), (14, .flt true hi)] [(0, .cells true 1 1 (.fn fun j => [.int true .i64 a]))] (piececallU Try.f14 (Sx.nav [1,1,1,0,0,0,1,0,1,1] (Sx.bodyOf Try.f14)) (Sx.frL [(0, .fn (.func 33) [] [.ptr ⟨false, 0, 0, 0⟩]), (3, .int true .i64 m), (8, .flt false 0), (9, .flt false 0), (10, .int true .i64 s), (11, .int false .i64 0), (13, .flt true lo), (14, .flt true hi), (16, .flt true v1), (17, .flt true v2)]) (Sx.hpL [(0, .cells true 1 1 (.fn fun j => [.int true .i64 a]))]) 1 [true]) := Sx.eqn (q := ((((True ∧ (((v1 < (18446744073709551616 : Nat)) ∧ (Sx.finD v1 = true)) ∧ (((-4503599627370496 : Int) ≤ Sx.rk v1 - a) ∧ (Sx.rk v1 - a ≤ (4503599627370496 : Int))))) ∧ (((v2 < (18446744073709551616 : Nat)) ∧ (Sx.finD v2 = true)) ∧ (((-4503599627370496 : Int) ≤ Sx.rk v2 - a) ∧ (Sx.rk v2 - a ≤ (4503599627370496 : Int))))) ∧ (((-9223372036854775808 : Int) ≤ s + (1 : Int)) ∧ (s + (1 : Int) ≤ (9223372036854775807 : Int)))) ∧ ((!Sx.feq (TV a v1) (TV a v1)) = true))) (by kernel_rfl) ⟨⟨⟨⟨trivial, ⟨⟨c0, c1⟩, ⟨c2, c3⟩⟩⟩, ⟨⟨c4, c5⟩, ⟨c6, c7⟩⟩⟩, ⟨c8, c9⟩⟩, c10⟩
end Go.Proofs.Ytilmplaobpmdpaa
