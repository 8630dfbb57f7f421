/- GraphKnown: returns true for every input; no conditions. By the engine's runs, checked by the kernel. -/
import Derived.Test.YtgjdeclenlgaeaaRows
import Derived.ProofKit
import Derived.OpenShut
import Derived.KernelRfl
import Derived.SizedLaws
import Derived.Carry
import Derived.ChangeMaps5
import Derived.Test.YtgjdeclenlgaeaaGraphKnownPA
namespace Go.Proofs.Ytgjdeclenlgaeaa
open Go.ChangeShapes Go.WideShapes Go.ChangeAt Go.RowKit
set_option linter.unusedVariables false
set_option linter.unusedSimpArgs false

theorem own : ownKnob Try.prog.godebug = none := by kernel_rfl
theorem laidOut : laidOutB Try.prog = true := by kernel_rfl
theorem name_r1 (l : List UInt8) (c0 : Decidable.decide ((↑(List.length l) : Int) < (2 : Int)) = Bool.false) (c1 : Decidable.decide ((16 : Int) < (↑(List.length l) : Int)) = Bool.true) : Go.Sx.PureP (Go.Sx.AV.tup [Go.Sx.AV.int Bool.false Go.IntKind.u8 (0 : Int), Go.Sx.AV.bool Bool.false]) (call2 59 [.str true l] (Go.Sx.G.on [false, true])) := by
  have e : Go.Sx.pureP (Go.Sx.AV.tup [Go.Sx.AV.int Bool.false Go.IntKind.u8 (0 : Int), Go.Sx.AV.bool Bool.false]) (call2 59 [.str true l] (Go.Sx.G.on [false, true])) = ((Go.Sx.AV.tup [Go.Sx.AV.int Bool.false Go.IntKind.u8 (0 : Int), Go.Sx.AV.bool Bool.false]) = (Go.Sx.AV.tup [Go.Sx.AV.int Bool.false Go.IntKind.u8 (0 : Int), Go.Sx.AV.bool Bool.false]) ∧ ((True ∧ (Decidable.decide ((↑(List.length l) : Int) < (2 : Int)) = Bool.false)) ∧ (Decidable.decide ((16 : Int) < (↑(List.length l) : Int)) = Bool.true))) := by kernel_rfl
  exact ⟨by rw [e]; exact ⟨rfl, ⟨⟨trivial, c0⟩, c1⟩⟩⟩
theorem name_r2 (l : List UInt8) (c0 : Decidable.decide ((↑(List.length l) : Int) < (2 : Int)) = Bool.false) (c1 : Decidable.decide ((16 : Int) < (↑(List.length l) : Int)) = Bool.false) (c2 : (0 : Int) ≤ (1 : Int)) (c3 : (1 : Int) ≤ (↑(List.length l) : Int)) (c4 : (↑(List.length l) : Int) ≤ (↑(List.length l) : Int)) (c5 : (!List.all (List.take (Int.toNat (↑(List.length l) : Int) - Int.toNat (1 : Int)) (List.drop (Int.toNat (1 : Int)) l)) Go.Proofs.Ytgjdeclenlgaeaa.okB) = Bool.false) (c6 : (0 : Int) ≤ (0 : Int)) (c7 : (0 : Int) < (↑(List.length l) : Int)) : Go.Sx.PureP (Go.Sx.AV.tup [Go.Sx.AV.int Bool.true Go.IntKind.u8 (Go.Proofs.Ytgjdeclenlgaeaa.of_0 (↑(UInt8.toNat (List.getD l (Int.toNat (0 : Int)) (0 : UInt8))) : Int)), Go.Sx.AV.sbool (Go.Proofs.Ytgjdeclenlgaeaa.of_1 (↑(UInt8.toNat (List.getD l (Int.toNat (0 : Int)) (0 : UInt8))) : Int))]) (call2 59 [.str true l] (Go.Sx.G.on [false, false, false])) := by
  have e : Go.Sx.pureP (Go.Sx.AV.tup [Go.Sx.AV.int Bool.true Go.IntKind.u8 (Go.Proofs.Ytgjdeclenlgaeaa.of_0 (↑(UInt8.toNat (List.getD l (Int.toNat (0 : Int)) (0 : UInt8))) : Int)), Go.Sx.AV.sbool (Go.Proofs.Ytgjdeclenlgaeaa.of_1 (↑(UInt8.toNat (List.getD l (Int.toNat (0 : Int)) (0 : UInt8))) : Int))]) (call2 59 [.str true l] (Go.Sx.G.on [false, false, false])) = ((Go.Sx.AV.tup [Go.Sx.AV.int Bool.true Go.IntKind.u8 (Go.Proofs.Ytgjdeclenlgaeaa.of_0 (↑(UInt8.toNat (List.getD l (Int.toNat (0 : Int)) (0 : UInt8))) : Int)), Go.Sx.AV.sbool (Go.Proofs.Ytgjdeclenlgaeaa.of_1 (↑(UInt8.toNat (List.getD l (Int.toNat (0 : Int)) (0 : UInt8))) : Int))]) = (Go.Sx.AV.tup [Go.Sx.AV.int Bool.true Go.IntKind.u8 (Go.Proofs.Ytgjdeclenlgaeaa.of_0 (↑(UInt8.toNat (List.getD l (Int.toNat (0 : Int)) (0 : UInt8))) : Int)), Go.Sx.AV.sbool (Go.Proofs.Ytgjdeclenlgaeaa.of_1 (↑(UInt8.toNat (List.getD l (Int.toNat (0 : Int)) (0 : UInt8))) : Int))]) ∧ (((((True ∧ (Decidable.decide ((↑(List.length l) : Int) < (2 : Int)) = Bool.false)) ∧ (Decidable.decide ((16 : Int) < (↑(List.length l) : Int)) = Bool.false)) ∧ (((0 : Int) ≤ (1 : Int)) ∧ (((1 : Int) ≤ (↑(List.length l) : Int)) ∧ ((↑(List.length l) : Int) ≤ (↑(List.length l) : Int))))) ∧ ((!List.all (List.take (Int.toNat (↑(List.length l) : Int) - Int.toNat (1 : Int)) (List.drop (Int.toNat (1 : Int)) l)) Go.Proofs.Ytgjdeclenlgaeaa.okB) = Bool.false)) ∧ (((0 : Int) ≤ (0 : Int)) ∧ ((0 : Int) < (↑(List.length l) : Int))))) := by kernel_rfl
  exact ⟨by rw [e]; exact ⟨rfl, ⟨⟨⟨⟨⟨trivial, c0⟩, c1⟩, ⟨c2, ⟨c3, c4⟩⟩⟩, c5⟩, ⟨c6, c7⟩⟩⟩⟩
theorem name_r3 (l : List UInt8) (c0 : Decidable.decide ((↑(List.length l) : Int) < (2 : Int)) = Bool.false) (c1 : Decidable.decide ((16 : Int) < (↑(List.length l) : Int)) = Bool.false) (c2 : (0 : Int) ≤ (1 : Int)) (c3 : (1 : Int) ≤ (↑(List.length l) : Int)) (c4 : (↑(List.length l) : Int) ≤ (↑(List.length l) : Int)) (c5 : (!List.all (List.take (Int.toNat (↑(List.length l) : Int) - Int.toNat (1 : Int)) (List.drop (Int.toNat (1 : Int)) l)) Go.Proofs.Ytgjdeclenlgaeaa.okB) = Bool.true) : Go.Sx.PureP (Go.Sx.AV.tup [Go.Sx.AV.int Bool.false Go.IntKind.u8 (0 : Int), Go.Sx.AV.bool Bool.false]) (call2 59 [.str true l] (Go.Sx.G.on [false, false, true])) := by
  have e : Go.Sx.pureP (Go.Sx.AV.tup [Go.Sx.AV.int Bool.false Go.IntKind.u8 (0 : Int), Go.Sx.AV.bool Bool.false]) (call2 59 [.str true l] (Go.Sx.G.on [false, false, true])) = ((Go.Sx.AV.tup [Go.Sx.AV.int Bool.false Go.IntKind.u8 (0 : Int), Go.Sx.AV.bool Bool.false]) = (Go.Sx.AV.tup [Go.Sx.AV.int Bool.false Go.IntKind.u8 (0 : Int), Go.Sx.AV.bool Bool.false]) ∧ ((((True ∧ (Decidable.decide ((↑(List.length l) : Int) < (2 : Int)) = Bool.false)) ∧ (Decidable.decide ((16 : Int) < (↑(List.length l) : Int)) = Bool.false)) ∧ (((0 : Int) ≤ (1 : Int)) ∧ (((1 : Int) ≤ (↑(List.length l) : Int)) ∧ ((↑(List.length l) : Int) ≤ (↑(List.length l) : Int))))) ∧ ((!List.all (List.take (Int.toNat (↑(List.length l) : Int) - Int.toNat (1 : Int)) (List.drop (Int.toNat (1 : Int)) l)) Go.Proofs.Ytgjdeclenlgaeaa.okB) = Bool.true))) := by kernel_rfl
  exact ⟨by rw [e]; exact ⟨rfl, ⟨⟨⟨⟨trivial, c0⟩, c1⟩, ⟨c2, ⟨c3, c4⟩⟩⟩, c5⟩⟩⟩
noncomputable def name_0 (l : List UInt8) : Int := (bif Decidable.decide ((↑(List.length l) : Int) < (2 : Int)) then ((0 : Int)) else (bif Decidable.decide ((16 : Int) < (↑(List.length l) : Int)) then ((0 : Int)) else (bif List.all (List.take (Int.toNat (↑(List.length l) : Int) - Int.toNat (1 : Int)) (List.drop (Int.toNat (1 : Int)) l)) Go.Proofs.Ytgjdeclenlgaeaa.okB then (Go.Proofs.Ytgjdeclenlgaeaa.of_0 (↑(UInt8.toNat (List.getD l (Int.toNat (0 : Int)) (0 : UInt8))) : Int)) else ((0 : Int)))))
noncomputable def name_1 (l : List UInt8) : Bool := (bif Decidable.decide ((↑(List.length l) : Int) < (2 : Int)) then (Bool.false) else (bif Decidable.decide ((16 : Int) < (↑(List.length l) : Int)) then (Bool.false) else (bif List.all (List.take (Int.toNat (↑(List.length l) : Int) - Int.toNat (1 : Int)) (List.drop (Int.toNat (1 : Int)) l)) Go.Proofs.Ytgjdeclenlgaeaa.okB then (Go.Proofs.Ytgjdeclenlgaeaa.of_1 (↑(UInt8.toNat (List.getD l (Int.toNat (0 : Int)) (0 : UInt8))) : Int)) else (Bool.false))))
noncomputable def nameS : List Sx.AV → Sx.M Sx.AV
  | [.str s0 l] => Sx.M.ret (Go.Sx.AV.tup [Go.Sx.AV.int s0 (Go.IntKind.u8) (name_0 l), Go.Sx.cmpB s0 (name_1 l)])
  | args => call2 59 args
theorem nameS_ok : ∀ args v g g', nameS args g = .done v g' → Sx.CallIs Try.prog 59 args v g g' := by
  intro args v g g' h
  unfold nameS at h
  split at h
  · rename_i s0 l
    obtain ⟨rfl, rfl⟩ := Sx.ret_done h
    refine Sx.scal call2_ok fun μ cargs ha => ?_
    have ha' : Sx.Reps 0 Sx.MM.none [.str true l] cargs.toList := by simpa only [Sx.Reps, Sx.Rep] using ha
    cases t0 : Decidable.decide ((↑(List.length l) : Int) < (2 : Int)) with
    | true =>
      exact ⟨_, _, _, ha', name_r0 l t0, rfl, fun cv hc => by have := hc g.nx μ; have e0 : name_0 l = ((0 : Int)) := (Sx.ct t0).trans (rfl); have e1 : name_1 l = (Bool.false) := (Sx.ct t0).trans (rfl); rw [e0, e1]; simpa only [Sx.Rep, Sx.Reps, Sx.Rep_cmpB] using this⟩
    | false =>
      cases t1 : Decidable.decide ((16 : Int) < (↑(List.length l) : Int)) with
      | true =>
        exact ⟨_, _, _, ha', name_r1 l t0 t1, rfl, fun cv hc => by have := hc g.nx μ; have e0 : name_0 l = ((0 : Int)) := (Sx.cf t0).trans ((Sx.ct t1).trans (rfl)); have e1 : name_1 l = (Bool.false) := (Sx.cf t0).trans ((Sx.ct t1).trans (rfl)); rw [e0, e1]; simpa only [Sx.Rep, Sx.Reps, Sx.Rep_cmpB] using this⟩
      | false =>
        cases t2 : List.all (List.take (Int.toNat (↑(List.length l) : Int) - Int.toNat (1 : Int)) (List.drop (Int.toNat (1 : Int)) l)) Go.Proofs.Ytgjdeclenlgaeaa.okB with
        | true =>
          exact ⟨_, _, _, ha', name_r2 l t0 t1 (by first | ((try simp only [decide_eq_true_eq, decide_eq_false_iff_not] at t0 t1 t2); (try simp only [List.length_take, List.length_drop]); omega) | decide | (have hp' := hp; simp_all; try omega)) (by first | ((try simp only [decide_eq_true_eq, decide_eq_false_iff_not] at t0 t1 t2); (try simp only [List.length_take, List.length_drop]); omega) | decide | (have hp' := hp; simp_all; try omega)) (by first | ((try simp only [decide_eq_true_eq, decide_eq_false_iff_not] at t0 t1 t2); (try simp only [List.length_take, List.length_drop]); omega) | decide | (have hp' := hp; simp_all; try omega)) (by rw [t2]; rfl) (by first | ((try simp only [decide_eq_true_eq, decide_eq_false_iff_not] at t0 t1 t2); (try simp only [List.length_take, List.length_drop]); omega) | decide | (have hp' := hp; simp_all; try omega)) (by first | ((try simp only [decide_eq_true_eq, decide_eq_false_iff_not] at t0 t1 t2); (try simp only [List.length_take, List.length_drop]); omega) | decide | (have hp' := hp; simp_all; try omega)), rfl, fun cv hc => by have := hc g.nx μ; have e0 : name_0 l = (Go.Proofs.Ytgjdeclenlgaeaa.of_0 (↑(UInt8.toNat (List.getD l (Int.toNat (0 : Int)) (0 : UInt8))) : Int)) := (Sx.cf t0).trans ((Sx.cf t1).trans ((Sx.ct t2).trans (rfl))); have e1 : name_1 l = (Go.Proofs.Ytgjdeclenlgaeaa.of_1 (↑(UInt8.toNat (List.getD l (Int.toNat (0 : Int)) (0 : UInt8))) : Int)) := (Sx.cf t0).trans ((Sx.cf t1).trans ((Sx.ct t2).trans (rfl))); rw [e0, e1]; simpa only [Sx.Rep, Sx.Reps, Sx.Rep_cmpB] using this⟩
        | false =>
          exact ⟨_, _, _, ha', name_r3 l t0 t1 (by first | ((try simp only [decide_eq_true_eq, decide_eq_false_iff_not] at t0 t1 t2); (try simp only [List.length_take, List.length_drop]); omega) | decide | (have hp' := hp; simp_all; try omega)) (by first | ((try simp only [decide_eq_true_eq, decide_eq_false_iff_not] at t0 t1 t2); (try simp only [List.length_take, List.length_drop]); omega) | decide | (have hp' := hp; simp_all; try omega)) (by first | ((try simp only [decide_eq_true_eq, decide_eq_false_iff_not] at t0 t1 t2); (try simp only [List.length_take, List.length_drop]); omega) | decide | (have hp' := hp; simp_all; try omega)) (by rw [t2]; rfl), rfl, fun cv hc => by have := hc g.nx μ; have e0 : name_0 l = ((0 : Int)) := (Sx.cf t0).trans ((Sx.cf t1).trans ((Sx.cf t2).trans (rfl))); have e1 : name_1 l = (Bool.false) := (Sx.cf t0).trans ((Sx.cf t1).trans ((Sx.cf t2).trans (rfl))); rw [e0, e1]; simpa only [Sx.Rep, Sx.Reps, Sx.Rep_cmpB] using this⟩
  · exact call2_ok _ _ _ _ _ h
theorem nameS_tch : ∀ args, Sx.Tch (nameS args) := by
  intro args
  unfold nameS
  split
  · exact Sx.Tch.ret _
  · exact call2_tch _ _
theorem rname_r0 (l : List UInt8) (c0 : Decidable.decide ((↑(List.length l) : Int) < (2 : Int)) = Bool.true) : Go.Sx.PureP (Go.Sx.AV.tup [Go.Sx.AV.int Bool.false Go.IntKind.u8 (0 : Int), Go.Sx.AV.bool Bool.false]) (call2 76 [.str true l] (Go.Sx.G.on [true])) := by
  have e : Go.Sx.pureP (Go.Sx.AV.tup [Go.Sx.AV.int Bool.false Go.IntKind.u8 (0 : Int), Go.Sx.AV.bool Bool.false]) (call2 76 [.str true l] (Go.Sx.G.on [true])) = ((Go.Sx.AV.tup [Go.Sx.AV.int Bool.false Go.IntKind.u8 (0 : Int), Go.Sx.AV.bool Bool.false]) = (Go.Sx.AV.tup [Go.Sx.AV.int Bool.false Go.IntKind.u8 (0 : Int), Go.Sx.AV.bool Bool.false]) ∧ (True ∧ (Decidable.decide ((↑(List.length l) : Int) < (2 : Int)) = Bool.true))) := by kernel_rfl
  exact ⟨by rw [e]; exact ⟨rfl, ⟨trivial, c0⟩⟩⟩
theorem rname_r1 (l : List UInt8) (c0 : Decidable.decide ((↑(List.length l) : Int) < (2 : Int)) = Bool.false) (c1 : Decidable.decide ((16 : Int) < (↑(List.length l) : Int)) = Bool.true) : Go.Sx.PureP (Go.Sx.AV.tup [Go.Sx.AV.int Bool.false Go.IntKind.u8 (0 : Int), Go.Sx.AV.bool Bool.false]) (call2 76 [.str true l] (Go.Sx.G.on [false, true])) := by
  have e : Go.Sx.pureP (Go.Sx.AV.tup [Go.Sx.AV.int Bool.false Go.IntKind.u8 (0 : Int), Go.Sx.AV.bool Bool.false]) (call2 76 [.str true l] (Go.Sx.G.on [false, true])) = ((Go.Sx.AV.tup [Go.Sx.AV.int Bool.false Go.IntKind.u8 (0 : Int), Go.Sx.AV.bool Bool.false]) = (Go.Sx.AV.tup [Go.Sx.AV.int Bool.false Go.IntKind.u8 (0 : Int), Go.Sx.AV.bool Bool.false]) ∧ ((True ∧ (Decidable.decide ((↑(List.length l) : Int) < (2 : Int)) = Bool.false)) ∧ (Decidable.decide ((16 : Int) < (↑(List.length l) : Int)) = Bool.true))) := by kernel_rfl
  exact ⟨by rw [e]; exact ⟨rfl, ⟨⟨trivial, c0⟩, c1⟩⟩⟩
theorem rname_r2 (l : List UInt8) (c0 : Decidable.decide ((↑(List.length l) : Int) < (2 : Int)) = Bool.false) (c1 : Decidable.decide ((16 : Int) < (↑(List.length l) : Int)) = Bool.false) (c2 : (0 : Int) ≤ (1 : Int)) (c3 : (1 : Int) ≤ (↑(List.length l) : Int)) (c4 : (↑(List.length l) : Int) ≤ (↑(List.length l) : Int)) (c5 : List.length (List.take (Int.toNat (↑(List.length l) : Int) - Int.toNat (1 : Int)) (List.drop (Int.toNat (1 : Int)) l)) ≤ (9223372036854775807 : Nat)) (c6 : (!List.all (List.take (Int.toNat (↑(List.length l) : Int) - Int.toNat (1 : Int)) (List.drop (Int.toNat (1 : Int)) l)) Go.Proofs.Ytgjdeclenlgaeaa.okB) = Bool.false) (c7 : (0 : Int) ≤ (0 : Int)) (c8 : (0 : Int) < (↑(List.length l) : Int)) : Go.Sx.PureP (Go.Sx.AV.tup [Go.Sx.AV.int Bool.true Go.IntKind.u8 (Go.Proofs.Ytgjdeclenlgaeaa.rof_0 (↑(UInt8.toNat (List.getD l (Int.toNat (0 : Int)) (0 : UInt8))) : Int)), Go.Sx.AV.sbool (Go.Proofs.Ytgjdeclenlgaeaa.rof_1 (↑(UInt8.toNat (List.getD l (Int.toNat (0 : Int)) (0 : UInt8))) : Int))]) (call2 76 [.str true l] (Go.Sx.G.on [false, false, false])) := by
  have e : Go.Sx.pureP (Go.Sx.AV.tup [Go.Sx.AV.int Bool.true Go.IntKind.u8 (Go.Proofs.Ytgjdeclenlgaeaa.rof_0 (↑(UInt8.toNat (List.getD l (Int.toNat (0 : Int)) (0 : UInt8))) : Int)), Go.Sx.AV.sbool (Go.Proofs.Ytgjdeclenlgaeaa.rof_1 (↑(UInt8.toNat (List.getD l (Int.toNat (0 : Int)) (0 : UInt8))) : Int))]) (call2 76 [.str true l] (Go.Sx.G.on [false, false, false])) = ((Go.Sx.AV.tup [Go.Sx.AV.int Bool.true Go.IntKind.u8 (Go.Proofs.Ytgjdeclenlgaeaa.rof_0 (↑(UInt8.toNat (List.getD l (Int.toNat (0 : Int)) (0 : UInt8))) : Int)), Go.Sx.AV.sbool (Go.Proofs.Ytgjdeclenlgaeaa.rof_1 (↑(UInt8.toNat (List.getD l (Int.toNat (0 : Int)) (0 : UInt8))) : Int))]) = (Go.Sx.AV.tup [Go.Sx.AV.int Bool.true Go.IntKind.u8 (Go.Proofs.Ytgjdeclenlgaeaa.rof_0 (↑(UInt8.toNat (List.getD l (Int.toNat (0 : Int)) (0 : UInt8))) : Int)), Go.Sx.AV.sbool (Go.Proofs.Ytgjdeclenlgaeaa.rof_1 (↑(UInt8.toNat (List.getD l (Int.toNat (0 : Int)) (0 : UInt8))) : Int))]) ∧ ((((((True ∧ (Decidable.decide ((↑(List.length l) : Int) < (2 : Int)) = Bool.false)) ∧ (Decidable.decide ((16 : Int) < (↑(List.length l) : Int)) = Bool.false)) ∧ (((0 : Int) ≤ (1 : Int)) ∧ (((1 : Int) ≤ (↑(List.length l) : Int)) ∧ ((↑(List.length l) : Int) ≤ (↑(List.length l) : Int))))) ∧ (List.length (List.take (Int.toNat (↑(List.length l) : Int) - Int.toNat (1 : Int)) (List.drop (Int.toNat (1 : Int)) l)) ≤ (9223372036854775807 : Nat))) ∧ ((!List.all (List.take (Int.toNat (↑(List.length l) : Int) - Int.toNat (1 : Int)) (List.drop (Int.toNat (1 : Int)) l)) Go.Proofs.Ytgjdeclenlgaeaa.okB) = Bool.false)) ∧ (((0 : Int) ≤ (0 : Int)) ∧ ((0 : Int) < (↑(List.length l) : Int))))) := by kernel_rfl
  exact ⟨by rw [e]; exact ⟨rfl, ⟨⟨⟨⟨⟨⟨trivial, c0⟩, c1⟩, ⟨c2, ⟨c3, c4⟩⟩⟩, c5⟩, c6⟩, ⟨c7, c8⟩⟩⟩⟩
theorem rname_r3 (l : List UInt8) (c0 : Decidable.decide ((↑(List.length l) : Int) < (2 : Int)) = Bool.false) (c1 : Decidable.decide ((16 : Int) < (↑(List.length l) : Int)) = Bool.false) (c2 : (0 : Int) ≤ (1 : Int)) (c3 : (1 : Int) ≤ (↑(List.length l) : Int)) (c4 : (↑(List.length l) : Int) ≤ (↑(List.length l) : Int)) (c5 : List.length (List.take (Int.toNat (↑(List.length l) : Int) - Int.toNat (1 : Int)) (List.drop (Int.toNat (1 : Int)) l)) ≤ (9223372036854775807 : Nat)) (c6 : (!List.all (List.take (Int.toNat (↑(List.length l) : Int) - Int.toNat (1 : Int)) (List.drop (Int.toNat (1 : Int)) l)) Go.Proofs.Ytgjdeclenlgaeaa.okB) = Bool.true) : Go.Sx.PureP (Go.Sx.AV.tup [Go.Sx.AV.int Bool.false Go.IntKind.u8 (0 : Int), Go.Sx.AV.bool Bool.false]) (call2 76 [.str true l] (Go.Sx.G.on [false, false, true])) := by
  have e : Go.Sx.pureP (Go.Sx.AV.tup [Go.Sx.AV.int Bool.false Go.IntKind.u8 (0 : Int), Go.Sx.AV.bool Bool.false]) (call2 76 [.str true l] (Go.Sx.G.on [false, false, true])) = ((Go.Sx.AV.tup [Go.Sx.AV.int Bool.false Go.IntKind.u8 (0 : Int), Go.Sx.AV.bool Bool.false]) = (Go.Sx.AV.tup [Go.Sx.AV.int Bool.false Go.IntKind.u8 (0 : Int), Go.Sx.AV.bool Bool.false]) ∧ (((((True ∧ (Decidable.decide ((↑(List.length l) : Int) < (2 : Int)) = Bool.false)) ∧ (Decidable.decide ((16 : Int) < (↑(List.length l) : Int)) = Bool.false)) ∧ (((0 : Int) ≤ (1 : Int)) ∧ (((1 : Int) ≤ (↑(List.length l) : Int)) ∧ ((↑(List.length l) : Int) ≤ (↑(List.length l) : Int))))) ∧ (List.length (List.take (Int.toNat (↑(List.length l) : Int) - Int.toNat (1 : Int)) (List.drop (Int.toNat (1 : Int)) l)) ≤ (9223372036854775807 : Nat))) ∧ ((!List.all (List.take (Int.toNat (↑(List.length l) : Int) - Int.toNat (1 : Int)) (List.drop (Int.toNat (1 : Int)) l)) Go.Proofs.Ytgjdeclenlgaeaa.okB) = Bool.true))) := by kernel_rfl
  exact ⟨by rw [e]; exact ⟨rfl, ⟨⟨⟨⟨⟨trivial, c0⟩, c1⟩, ⟨c2, ⟨c3, c4⟩⟩⟩, c5⟩, c6⟩⟩⟩
noncomputable def rname_0 (l : List UInt8) : Int := (bif Decidable.decide ((↑(List.length l) : Int) < (2 : Int)) then ((0 : Int)) else (bif Decidable.decide ((16 : Int) < (↑(List.length l) : Int)) then ((0 : Int)) else (bif List.all (List.take (Int.toNat (↑(List.length l) : Int) - Int.toNat (1 : Int)) (List.drop (Int.toNat (1 : Int)) l)) Go.Proofs.Ytgjdeclenlgaeaa.okB then (Go.Proofs.Ytgjdeclenlgaeaa.rof_0 (↑(UInt8.toNat (List.getD l (Int.toNat (0 : Int)) (0 : UInt8))) : Int)) else ((0 : Int)))))
noncomputable def rname_1 (l : List UInt8) : Bool := (bif Decidable.decide ((↑(List.length l) : Int) < (2 : Int)) then (Bool.false) else (bif Decidable.decide ((16 : Int) < (↑(List.length l) : Int)) then (Bool.false) else (bif List.all (List.take (Int.toNat (↑(List.length l) : Int) - Int.toNat (1 : Int)) (List.drop (Int.toNat (1 : Int)) l)) Go.Proofs.Ytgjdeclenlgaeaa.okB then (Go.Proofs.Ytgjdeclenlgaeaa.rof_1 (↑(UInt8.toNat (List.getD l (Int.toNat (0 : Int)) (0 : UInt8))) : Int)) else (Bool.false))))
noncomputable def rnameS : List Sx.AV → Sx.M Sx.AV
  | [.str s0 l] => Sx.M.ret (Go.Sx.AV.tup [Go.Sx.AV.int s0 (Go.IntKind.u8) (rname_0 l), Go.Sx.cmpB s0 (rname_1 l)])
  | args => call2 76 args
theorem rnameS_ok : ∀ args v g g', rnameS args g = .done v g' → Sx.CallIs Try.prog 76 args v g g' := by
  intro args v g g' h
  unfold rnameS at h
  split at h
  · rename_i s0 l
    obtain ⟨rfl, rfl⟩ := Sx.ret_done h
    refine Sx.scal call2_ok fun μ cargs ha => ?_
    have ha' : Sx.Reps 0 Sx.MM.none [.str true l] cargs.toList := by simpa only [Sx.Reps, Sx.Rep] using ha
    cases t0 : Decidable.decide ((↑(List.length l) : Int) < (2 : Int)) with
    | true =>
      exact ⟨_, _, _, ha', rname_r0 l t0, rfl, fun cv hc => by have := hc g.nx μ; have e0 : rname_0 l = ((0 : Int)) := (Sx.ct t0).trans (rfl); have e1 : rname_1 l = (Bool.false) := (Sx.ct t0).trans (rfl); rw [e0, e1]; simpa only [Sx.Rep, Sx.Reps, Sx.Rep_cmpB] using this⟩
    | false =>
      cases t1 : Decidable.decide ((16 : Int) < (↑(List.length l) : Int)) with
      | true =>
        exact ⟨_, _, _, ha', rname_r1 l t0 t1, rfl, fun cv hc => by have := hc g.nx μ; have e0 : rname_0 l = ((0 : Int)) := (Sx.cf t0).trans ((Sx.ct t1).trans (rfl)); have e1 : rname_1 l = (Bool.false) := (Sx.cf t0).trans ((Sx.ct t1).trans (rfl)); rw [e0, e1]; simpa only [Sx.Rep, Sx.Reps, Sx.Rep_cmpB] using this⟩
      | false =>
        cases t2 : List.all (List.take (Int.toNat (↑(List.length l) : Int) - Int.toNat (1 : Int)) (List.drop (Int.toNat (1 : Int)) l)) Go.Proofs.Ytgjdeclenlgaeaa.okB with
        | true =>
          exact ⟨_, _, _, ha', rname_r2 l t0 t1 (by first | ((try simp only [decide_eq_true_eq, decide_eq_false_iff_not] at t0 t1 t2); (try simp only [List.length_take, List.length_drop]); omega) | decide | (have hp' := hp; simp_all; try omega)) (by first | ((try simp only [decide_eq_true_eq, decide_eq_false_iff_not] at t0 t1 t2); (try simp only [List.length_take, List.length_drop]); omega) | decide | (have hp' := hp; simp_all; try omega)) (by first | ((try simp only [decide_eq_true_eq, decide_eq_false_iff_not] at t0 t1 t2); (try simp only [List.length_take, List.length_drop]); omega) | decide | (have hp' := hp; simp_all; try omega)) (by first | ((try simp only [decide_eq_true_eq, decide_eq_false_iff_not] at t0 t1 t2); (try simp only [List.length_take, List.length_drop]); omega) | decide | (have hp' := hp; simp_all; try omega)) (by rw [t2]; rfl) (by first | ((try simp only [decide_eq_true_eq, decide_eq_false_iff_not] at t0 t1 t2); (try simp only [List.length_take, List.length_drop]); omega) | decide | (have hp' := hp; simp_all; try omega)) (by first | ((try simp only [decide_eq_true_eq, decide_eq_false_iff_not] at t0 t1 t2); (try simp only [List.length_take, List.length_drop]); omega) | decide | (have hp' := hp; simp_all; try omega)), rfl, fun cv hc => by have := hc g.nx μ; have e0 : rname_0 l = (Go.Proofs.Ytgjdeclenlgaeaa.rof_0 (↑(UInt8.toNat (List.getD l (Int.toNat (0 : Int)) (0 : UInt8))) : Int)) := (Sx.cf t0).trans ((Sx.cf t1).trans ((Sx.ct t2).trans (rfl))); have e1 : rname_1 l = (Go.Proofs.Ytgjdeclenlgaeaa.rof_1 (↑(UInt8.toNat (List.getD l (Int.toNat (0 : Int)) (0 : UInt8))) : Int)) := (Sx.cf t0).trans ((Sx.cf t1).trans ((Sx.ct t2).trans (rfl))); rw [e0, e1]; simpa only [Sx.Rep, Sx.Reps, Sx.Rep_cmpB] using this⟩
        | false =>
          exact ⟨_, _, _, ha', rname_r3 l t0 t1 (by first | ((try simp only [decide_eq_true_eq, decide_eq_false_iff_not] at t0 t1 t2); (try simp only [List.length_take, List.length_drop]); omega) | decide | (have hp' := hp; simp_all; try omega)) (by first | ((try simp only [decide_eq_true_eq, decide_eq_false_iff_not] at t0 t1 t2); (try simp only [List.length_take, List.length_drop]); omega) | decide | (have hp' := hp; simp_all; try omega)) (by first | ((try simp only [decide_eq_true_eq, decide_eq_false_iff_not] at t0 t1 t2); (try simp only [List.length_take, List.length_drop]); omega) | decide | (have hp' := hp; simp_all; try omega)) (by first | ((try simp only [decide_eq_true_eq, decide_eq_false_iff_not] at t0 t1 t2); (try simp only [List.length_take, List.length_drop]); omega) | decide | (have hp' := hp; simp_all; try omega)) (by rw [t2]; rfl), rfl, fun cv hc => by have := hc g.nx μ; have e0 : rname_0 l = ((0 : Int)) := (Sx.cf t0).trans ((Sx.cf t1).trans ((Sx.cf t2).trans (rfl))); have e1 : rname_1 l = (Bool.false) := (Sx.cf t0).trans ((Sx.cf t1).trans ((Sx.cf t2).trans (rfl))); rw [e0, e1]; simpa only [Sx.Rep, Sx.Reps, Sx.Rep_cmpB] using this⟩
  · exact call2_ok _ _ _ _ _ h
theorem rnameS_tch : ∀ args, Sx.Tch (rnameS args) := by
  intro args
  unfold rnameS
  split
  · exact Sx.Tch.ret _
  · exact call2_tch _ _
theorem node_r0 (l : List UInt8) (c0 : Decidable.decide ((0 : Int) < (↑(List.length l) : Int)) = Bool.true) (c1 : Decidable.decide ((↑(List.length l) : Int) ≤ (16 : Int)) = Bool.true) : Go.Sx.PureP (Go.Sx.AV.sbool (List.all l Go.Proofs.Ytgjdeclenlgaeaa.okB)) (call2 60 [.str true l] (Go.Sx.G.on [true, true])) := by
  have e : Go.Sx.pureP (Go.Sx.AV.sbool (List.all l Go.Proofs.Ytgjdeclenlgaeaa.okB)) (call2 60 [.str true l] (Go.Sx.G.on [true, true])) = ((Go.Sx.AV.sbool (List.all l Go.Proofs.Ytgjdeclenlgaeaa.okB)) = (Go.Sx.AV.sbool (List.all l Go.Proofs.Ytgjdeclenlgaeaa.okB)) ∧ ((True ∧ (Decidable.decide ((0 : Int) < (↑(List.length l) : Int)) = Bool.true)) ∧ (Decidable.decide ((↑(List.length l) : Int) ≤ (16 : Int)) = Bool.true))) := by kernel_rfl
  exact ⟨by rw [e]; exact ⟨rfl, ⟨⟨trivial, c0⟩, c1⟩⟩⟩
theorem node_r1 (l : List UInt8) (c0 : Decidable.decide ((0 : Int) < (↑(List.length l) : Int)) = Bool.true) (c1 : Decidable.decide ((↑(List.length l) : Int) ≤ (16 : Int)) = Bool.false) : Go.Sx.PureP (Go.Sx.AV.bool Bool.false) (call2 60 [.str true l] (Go.Sx.G.on [true, false])) := by
  have e : Go.Sx.pureP (Go.Sx.AV.bool Bool.false) (call2 60 [.str true l] (Go.Sx.G.on [true, false])) = ((Go.Sx.AV.bool Bool.false) = (Go.Sx.AV.bool Bool.false) ∧ ((True ∧ (Decidable.decide ((0 : Int) < (↑(List.length l) : Int)) = Bool.true)) ∧ (Decidable.decide ((↑(List.length l) : Int) ≤ (16 : Int)) = Bool.false))) := by kernel_rfl
  exact ⟨by rw [e]; exact ⟨rfl, ⟨⟨trivial, c0⟩, c1⟩⟩⟩
theorem node_r2 (l : List UInt8) (c0 : Decidable.decide ((0 : Int) < (↑(List.length l) : Int)) = Bool.false) : Go.Sx.PureP (Go.Sx.AV.bool Bool.false) (call2 60 [.str true l] (Go.Sx.G.on [false])) := by
  have e : Go.Sx.pureP (Go.Sx.AV.bool Bool.false) (call2 60 [.str true l] (Go.Sx.G.on [false])) = ((Go.Sx.AV.bool Bool.false) = (Go.Sx.AV.bool Bool.false) ∧ (True ∧ (Decidable.decide ((0 : Int) < (↑(List.length l) : Int)) = Bool.false))) := by kernel_rfl
  exact ⟨by rw [e]; exact ⟨rfl, ⟨trivial, c0⟩⟩⟩
noncomputable def node_0 (l : List UInt8) : Bool := (bif Decidable.decide ((0 : Int) < (↑(List.length l) : Int)) then (bif Decidable.decide ((↑(List.length l) : Int) ≤ (16 : Int)) then (List.all l Go.Proofs.Ytgjdeclenlgaeaa.okB) else (Bool.false)) else (Bool.false))
noncomputable def nodeS : List Sx.AV → Sx.M Sx.AV
  | [.str s0 l] => Sx.M.ret (Go.Sx.cmpB s0 (node_0 l))
  | args => call2 60 args
theorem nodeS_ok : ∀ args v g g', nodeS args g = .done v g' → Sx.CallIs Try.prog 60 args v g g' := by
  intro args v g g' h
  unfold nodeS at h
  split at h
  · rename_i s0 l
    obtain ⟨rfl, rfl⟩ := Sx.ret_done h
    refine Sx.scal call2_ok fun μ cargs ha => ?_
    have ha' : Sx.Reps 0 Sx.MM.none [.str true l] cargs.toList := by simpa only [Sx.Reps, Sx.Rep] using ha
    cases t0 : Decidable.decide ((0 : Int) < (↑(List.length l) : Int)) with
    | true =>
      cases t1 : Decidable.decide ((↑(List.length l) : Int) ≤ (16 : Int)) with
      | true =>
        exact ⟨_, _, _, ha', node_r0 l t0 t1, rfl, fun cv hc => by have := hc g.nx μ; have e0 : node_0 l = (List.all l Go.Proofs.Ytgjdeclenlgaeaa.okB) := (Sx.ct t0).trans ((Sx.ct t1).trans (rfl)); rw [e0]; simpa only [Sx.Rep, Sx.Reps, Sx.Rep_cmpB] using this⟩
      | false =>
        exact ⟨_, _, _, ha', node_r1 l t0 t1, rfl, fun cv hc => by have := hc g.nx μ; have e0 : node_0 l = (Bool.false) := (Sx.ct t0).trans ((Sx.cf t1).trans (rfl)); rw [e0]; simpa only [Sx.Rep, Sx.Reps, Sx.Rep_cmpB] using this⟩
    | false =>
      exact ⟨_, _, _, ha', node_r2 l t0, rfl, fun cv hc => by have := hc g.nx μ; have e0 : node_0 l = (Bool.false) := (Sx.cf t0).trans (rfl); rw [e0]; simpa only [Sx.Rep, Sx.Reps, Sx.Rep_cmpB] using this⟩
  · exact call2_ok _ _ _ _ _ h
theorem nodeS_tch : ∀ args, Sx.Tch (nodeS args) := by
  intro args
  unfold nodeS
  split
  · exact Sx.Tch.ret _
  · exact call2_tch _ _
theorem rnode_r0 (l : List UInt8) (c0 : Decidable.decide ((1 : Int) ≤ (↑(List.length l) : Int)) = Bool.true) (c1 : Decidable.decide ((↑(List.length l) : Int) ≤ (16 : Int)) = Bool.true) (c2 : List.length l ≤ (9223372036854775807 : Nat)) : Go.Sx.PureP (Go.Sx.AV.sbool (List.all l Go.Proofs.Ytgjdeclenlgaeaa.okB)) (call2 77 [.str true l] (Go.Sx.G.on [true, true])) := by
  have e : Go.Sx.pureP (Go.Sx.AV.sbool (List.all l Go.Proofs.Ytgjdeclenlgaeaa.okB)) (call2 77 [.str true l] (Go.Sx.G.on [true, true])) = ((Go.Sx.AV.sbool (List.all l Go.Proofs.Ytgjdeclenlgaeaa.okB)) = (Go.Sx.AV.sbool (List.all l Go.Proofs.Ytgjdeclenlgaeaa.okB)) ∧ (((True ∧ (Decidable.decide ((1 : Int) ≤ (↑(List.length l) : Int)) = Bool.true)) ∧ (Decidable.decide ((↑(List.length l) : Int) ≤ (16 : Int)) = Bool.true)) ∧ (List.length l ≤ (9223372036854775807 : Nat)))) := by kernel_rfl
  exact ⟨by rw [e]; exact ⟨rfl, ⟨⟨⟨trivial, c0⟩, c1⟩, c2⟩⟩⟩
theorem rnode_r1 (l : List UInt8) (c0 : Decidable.decide ((1 : Int) ≤ (↑(List.length l) : Int)) = Bool.true) (c1 : Decidable.decide ((↑(List.length l) : Int) ≤ (16 : Int)) = Bool.false) : Go.Sx.PureP (Go.Sx.AV.bool Bool.false) (call2 77 [.str true l] (Go.Sx.G.on [true, false])) := by
  have e : Go.Sx.pureP (Go.Sx.AV.bool Bool.false) (call2 77 [.str true l] (Go.Sx.G.on [true, false])) = ((Go.Sx.AV.bool Bool.false) = (Go.Sx.AV.bool Bool.false) ∧ ((True ∧ (Decidable.decide ((1 : Int) ≤ (↑(List.length l) : Int)) = Bool.true)) ∧ (Decidable.decide ((↑(List.length l) : Int) ≤ (16 : Int)) = Bool.false))) := by kernel_rfl
  exact ⟨by rw [e]; exact ⟨rfl, ⟨⟨trivial, c0⟩, c1⟩⟩⟩
theorem rnode_r2 (l : List UInt8) (c0 : Decidable.decide ((1 : Int) ≤ (↑(List.length l) : Int)) = Bool.false) : Go.Sx.PureP (Go.Sx.AV.bool Bool.false) (call2 77 [.str true l] (Go.Sx.G.on [false])) := by
  have e : Go.Sx.pureP (Go.Sx.AV.bool Bool.false) (call2 77 [.str true l] (Go.Sx.G.on [false])) = ((Go.Sx.AV.bool Bool.false) = (Go.Sx.AV.bool Bool.false) ∧ (True ∧ (Decidable.decide ((1 : Int) ≤ (↑(List.length l) : Int)) = Bool.false))) := by kernel_rfl
  exact ⟨by rw [e]; exact ⟨rfl, ⟨trivial, c0⟩⟩⟩
noncomputable def rnode_0 (l : List UInt8) : Bool := (bif Decidable.decide ((1 : Int) ≤ (↑(List.length l) : Int)) then (bif Decidable.decide ((↑(List.length l) : Int) ≤ (16 : Int)) then (List.all l Go.Proofs.Ytgjdeclenlgaeaa.okB) else (Bool.false)) else (Bool.false))
noncomputable def rnodeS : List Sx.AV → Sx.M Sx.AV
  | [.str s0 l] => Sx.M.ret (Go.Sx.cmpB s0 (rnode_0 l))
  | args => call2 77 args
theorem rnodeS_ok : ∀ args v g g', rnodeS args g = .done v g' → Sx.CallIs Try.prog 77 args v g g' := by
  intro args v g g' h
  unfold rnodeS at h
  split at h
  · rename_i s0 l
    obtain ⟨rfl, rfl⟩ := Sx.ret_done h
    refine Sx.scal call2_ok fun μ cargs ha => ?_
    have ha' : Sx.Reps 0 Sx.MM.none [.str true l] cargs.toList := by simpa only [Sx.Reps, Sx.Rep] using ha
    cases t0 : Decidable.decide ((1 : Int) ≤ (↑(List.length l) : Int)) with
    | true =>
      cases t1 : Decidable.decide ((↑(List.length l) : Int) ≤ (16 : Int)) with
      | true =>
        exact ⟨_, _, _, ha', rnode_r0 l t0 t1 (by first | ((try simp only [decide_eq_true_eq, decide_eq_false_iff_not] at t0 t1); (try simp only [List.length_take, List.length_drop]); omega) | decide | (have hp' := hp; simp_all; try omega)), rfl, fun cv hc => by have := hc g.nx μ; have e0 : rnode_0 l = (List.all l Go.Proofs.Ytgjdeclenlgaeaa.okB) := (Sx.ct t0).trans ((Sx.ct t1).trans (rfl)); rw [e0]; simpa only [Sx.Rep, Sx.Reps, Sx.Rep_cmpB] using this⟩
      | false =>
        exact ⟨_, _, _, ha', rnode_r1 l t0 t1, rfl, fun cv hc => by have := hc g.nx μ; have e0 : rnode_0 l = (Bool.false) := (Sx.ct t0).trans ((Sx.cf t1).trans (rfl)); rw [e0]; simpa only [Sx.Rep, Sx.Reps, Sx.Rep_cmpB] using this⟩
    | false =>
      exact ⟨_, _, _, ha', rnode_r2 l t0, rfl, fun cv hc => by have := hc g.nx μ; have e0 : rnode_0 l = (Bool.false) := (Sx.cf t0).trans (rfl); rw [e0]; simpa only [Sx.Rep, Sx.Reps, Sx.Rep_cmpB] using this⟩
  · exact call2_ok _ _ _ _ _ h
theorem rnodeS_tch : ∀ args, Sx.Tch (rnodeS args) := by
  intro args
  unfold rnodeS
  split
  · exact Sx.Tch.ret _
  · exact call2_tch _ _
noncomputable def gam3 : Sx.Known := fun f => bif Nat.beq f 71 then some Sx.ofBits else (bif Nat.beq f 74 then some Sx.toBits else (bif Nat.beq f 72 then some smallS else (bif Nat.beq f 81 then some bytesS else (bif Nat.beq f 61 then some kindS else (bif Nat.beq f 78 then some rkindS else (bif Nat.beq f 58 then some rowOfS else (bif Nat.beq f 75 then some rrowS else (bif Nat.beq f 73 then some ofS else (bif Nat.beq f 82 then some rofS else (bif Nat.beq f 59 then some nameS else (bif Nat.beq f 76 then some rnameS else (bif Nat.beq f 60 then some nodeS else (bif Nat.beq f 77 then some rnodeS else (none))))))))))))))
theorem gam3_ok : Sx.KnownOk Try.prog gam3 := by
  intro f s h
  unfold gam3 at h
  cases h1 : Nat.beq f 71 with
  | true =>
    rw [h1] at h
    cases h
    cases Nat.eq_of_beq_eq_true h1
    exact (Sx.ofBits_is Try.prog).callIs Try.func71 (by kernel_rfl) (by kernel_rfl) (by kernel_rfl) (by kernel_rfl)
  | false =>
    rw [h1, cond_false] at h
    clear h1
    cases h1 : Nat.beq f 74 with
    | true =>
      rw [h1] at h
      cases h
      cases Nat.eq_of_beq_eq_true h1
      exact (Sx.toBits_is Try.prog).callIs Try.func74 (by kernel_rfl) (by kernel_rfl) (by kernel_rfl) (by kernel_rfl)
    | false =>
      rw [h1, cond_false] at h
      clear h1
      cases h1 : Nat.beq f 72 with
      | true =>
        rw [h1] at h
        cases h
        cases Nat.eq_of_beq_eq_true h1
        exact smallS_ok
      | false =>
        rw [h1, cond_false] at h
        clear h1
        cases h1 : Nat.beq f 81 with
        | true =>
          rw [h1] at h
          cases h
          cases Nat.eq_of_beq_eq_true h1
          exact bytesS_ok
        | false =>
          rw [h1, cond_false] at h
          clear h1
          cases h1 : Nat.beq f 61 with
          | true =>
            rw [h1] at h
            cases h
            cases Nat.eq_of_beq_eq_true h1
            exact kindS_ok
          | false =>
            rw [h1, cond_false] at h
            clear h1
            cases h1 : Nat.beq f 78 with
            | true =>
              rw [h1] at h
              cases h
              cases Nat.eq_of_beq_eq_true h1
              exact rkindS_ok
            | false =>
              rw [h1, cond_false] at h
              clear h1
              cases h1 : Nat.beq f 58 with
              | true =>
                rw [h1] at h
                cases h
                cases Nat.eq_of_beq_eq_true h1
                exact rowOfS_ok
              | false =>
                rw [h1, cond_false] at h
                clear h1
                cases h1 : Nat.beq f 75 with
                | true =>
                  rw [h1] at h
                  cases h
                  cases Nat.eq_of_beq_eq_true h1
                  exact rrowS_ok
                | false =>
                  rw [h1, cond_false] at h
                  clear h1
                  cases h1 : Nat.beq f 73 with
                  | true =>
                    rw [h1] at h
                    cases h
                    cases Nat.eq_of_beq_eq_true h1
                    exact ofS_ok
                  | false =>
                    rw [h1, cond_false] at h
                    clear h1
                    cases h1 : Nat.beq f 82 with
                    | true =>
                      rw [h1] at h
                      cases h
                      cases Nat.eq_of_beq_eq_true h1
                      exact rofS_ok
                    | false =>
                      rw [h1, cond_false] at h
                      clear h1
                      cases h1 : Nat.beq f 59 with
                      | true =>
                        rw [h1] at h
                        cases h
                        cases Nat.eq_of_beq_eq_true h1
                        exact nameS_ok
                      | false =>
                        rw [h1, cond_false] at h
                        clear h1
                        cases h1 : Nat.beq f 76 with
                        | true =>
                          rw [h1] at h
                          cases h
                          cases Nat.eq_of_beq_eq_true h1
                          exact rnameS_ok
                        | false =>
                          rw [h1, cond_false] at h
                          clear h1
                          cases h1 : Nat.beq f 60 with
                          | true =>
                            rw [h1] at h
                            cases h
                            cases Nat.eq_of_beq_eq_true h1
                            exact nodeS_ok
                          | false =>
                            rw [h1, cond_false] at h
                            clear h1
                            cases h1 : Nat.beq f 77 with
                            | true =>
                              rw [h1] at h
                              cases h
                              cases Nat.eq_of_beq_eq_true h1
                              exact rnodeS_ok
                            | false =>
                              rw [h1, cond_false] at h
                              clear h1
                              cases h
theorem gam3_tch : Sx.KnownT gam3 := by
  intro f s h
  unfold gam3 at h
  cases h1 : Nat.beq f 71 with
  | true => rw [h1] at h; cases h; exact Sx.Tch.ofBits
  | false =>
    rw [h1, cond_false] at h
    clear h1
    cases h1 : Nat.beq f 74 with
    | true => rw [h1] at h; cases h; exact Sx.Tch.toBits
    | false =>
      rw [h1, cond_false] at h
      clear h1
      cases h1 : Nat.beq f 72 with
      | true => rw [h1] at h; cases h; exact smallS_tch
      | false =>
        rw [h1, cond_false] at h
        clear h1
        cases h1 : Nat.beq f 81 with
        | true => rw [h1] at h; cases h; exact bytesS_tch
        | false =>
          rw [h1, cond_false] at h
          clear h1
          cases h1 : Nat.beq f 61 with
          | true => rw [h1] at h; cases h; exact kindS_tch
          | false =>
            rw [h1, cond_false] at h
            clear h1
            cases h1 : Nat.beq f 78 with
            | true => rw [h1] at h; cases h; exact rkindS_tch
            | false =>
              rw [h1, cond_false] at h
              clear h1
              cases h1 : Nat.beq f 58 with
              | true => rw [h1] at h; cases h; exact rowOfS_tch
              | false =>
                rw [h1, cond_false] at h
                clear h1
                cases h1 : Nat.beq f 75 with
                | true => rw [h1] at h; cases h; exact rrowS_tch
                | false =>
                  rw [h1, cond_false] at h
                  clear h1
                  cases h1 : Nat.beq f 73 with
                  | true => rw [h1] at h; cases h; exact ofS_tch
                  | false =>
                    rw [h1, cond_false] at h
                    clear h1
                    cases h1 : Nat.beq f 82 with
                    | true => rw [h1] at h; cases h; exact rofS_tch
                    | false =>
                      rw [h1, cond_false] at h
                      clear h1
                      cases h1 : Nat.beq f 59 with
                      | true => rw [h1] at h; cases h; exact nameS_tch
                      | false =>
                        rw [h1, cond_false] at h
                        clear h1
                        cases h1 : Nat.beq f 76 with
                        | true => rw [h1] at h; cases h; exact rnameS_tch
                        | false =>
                          rw [h1, cond_false] at h
                          clear h1
                          cases h1 : Nat.beq f 60 with
                          | true => rw [h1] at h; cases h; exact nodeS_tch
                          | false =>
                            rw [h1, cond_false] at h
                            clear h1
                            cases h1 : Nat.beq f 77 with
                            | true => rw [h1] at h; cases h; exact rnodeS_tch
                            | false =>
                              rw [h1, cond_false] at h
                              clear h1
                              cases h
noncomputable def call3 : Sx.Calls' := Sx.runN Try.prog gam3 (Sx.regionC Try.prog) 1000 50
theorem call3_ok : Sx.CallOk Try.prog call3 := Sx.engineC gam3_ok gam3_tch (by kernel_rfl) (by kernel_rfl) 1000 50
theorem call3_tch : Sx.CallT call3 := Sx.runA_tch gam3_tch (fun _ _ _ h => by cases h) (fun call hc n l fr => Sx.regionC_tch hc n l fr) 50
theorem call3_reg (n : Nat) : Sx.RegionOk Try.prog (Sx.regionC Try.prog call3 n) n := Sx.runN_regionC gam3_ok gam3_tch (by kernel_rfl) (by kernel_rfl) 1000 50 n
theorem chk_r0 (k : Int) (n a b c d : List UInt8) (v : Nat) (ph : Int) (c0 : (!Go.Proofs.Ytgjdeclenlgaeaa.rowOf_5 k) = Bool.false) (c1 : (!Go.Proofs.Ytgjdeclenlgaeaa.name_1 n) = Bool.false) (c2 : (!Decidable.decide (Go.Proofs.Ytgjdeclenlgaeaa.name_0 n = k)) = Bool.false) (c3 : (!Go.Proofs.Ytgjdeclenlgaeaa.node_0 a) = Bool.false) (c4 : (!Go.Proofs.Ytgjdeclenlgaeaa.node_0 b) = Bool.false) (c5 : Go.Proofs.Ytgjdeclenlgaeaa.rowOf_3 k = Bool.true) (c6 : (!Go.Proofs.Ytgjdeclenlgaeaa.node_0 c) = Bool.false) (c7 : (!Go.Proofs.Ytgjdeclenlgaeaa.node_0 d) = Bool.false) (c8 : (a == b) = Bool.true) : Go.Sx.PureP (Go.Sx.AV.int Bool.false Go.IntKind.i64 (2 : Int)) (call3 35 [.agg [.int true .u8 k, .str true n, .str true a, .str true b, .str true c, .str true d, .flt true v, .int true .i64 ph]] (Go.Sx.G.on [false, false, false, false, false, true, false, false, true])) := by
  have e : Go.Sx.pureP (Go.Sx.AV.int Bool.false Go.IntKind.i64 (2 : Int)) (call3 35 [.agg [.int true .u8 k, .str true n, .str true a, .str true b, .str true c, .str true d, .flt true v, .int true .i64 ph]] (Go.Sx.G.on [false, false, false, false, false, true, false, false, true])) = ((Go.Sx.AV.int Bool.false Go.IntKind.i64 (2 : Int)) = (Go.Sx.AV.int Bool.false Go.IntKind.i64 (2 : Int)) ∧ (((((((((True ∧ ((!Go.Proofs.Ytgjdeclenlgaeaa.rowOf_5 k) = Bool.false)) ∧ ((!Go.Proofs.Ytgjdeclenlgaeaa.name_1 n) = Bool.false)) ∧ ((!Decidable.decide (Go.Proofs.Ytgjdeclenlgaeaa.name_0 n = k)) = Bool.false)) ∧ ((!Go.Proofs.Ytgjdeclenlgaeaa.node_0 a) = Bool.false)) ∧ ((!Go.Proofs.Ytgjdeclenlgaeaa.node_0 b) = Bool.false)) ∧ (Go.Proofs.Ytgjdeclenlgaeaa.rowOf_3 k = Bool.true)) ∧ ((!Go.Proofs.Ytgjdeclenlgaeaa.node_0 c) = Bool.false)) ∧ ((!Go.Proofs.Ytgjdeclenlgaeaa.node_0 d) = Bool.false)) ∧ ((a == b) = Bool.true))) := by kernel_rfl
  exact ⟨by rw [e]; exact ⟨rfl, ⟨⟨⟨⟨⟨⟨⟨⟨⟨trivial, c0⟩, c1⟩, c2⟩, c3⟩, c4⟩, c5⟩, c6⟩, c7⟩, c8⟩⟩⟩
theorem chk_r1 (k : Int) (n a b c d : List UInt8) (v : Nat) (ph : Int) (c0 : (!Go.Proofs.Ytgjdeclenlgaeaa.rowOf_5 k) = Bool.false) (c1 : (!Go.Proofs.Ytgjdeclenlgaeaa.name_1 n) = Bool.false) (c2 : (!Decidable.decide (Go.Proofs.Ytgjdeclenlgaeaa.name_0 n = k)) = Bool.false) (c3 : (!Go.Proofs.Ytgjdeclenlgaeaa.node_0 a) = Bool.false) (c4 : (!Go.Proofs.Ytgjdeclenlgaeaa.node_0 b) = Bool.false) (c5 : Go.Proofs.Ytgjdeclenlgaeaa.rowOf_3 k = Bool.true) (c6 : (!Go.Proofs.Ytgjdeclenlgaeaa.node_0 c) = Bool.false) (c7 : (!Go.Proofs.Ytgjdeclenlgaeaa.node_0 d) = Bool.false) (c8 : (a == b) = Bool.false) (c9 : (!Go.Proofs.Ytgjdeclenlgaeaa.rowOf_3 k) = Bool.false) (c10 : (!Go.Proofs.Ytgjdeclenlgaeaa.rowOf_4 k) = Bool.false) (c11 : Decidable.decide ((2 : Int) < Go.Sx.kindDef v) = Bool.true) : Go.Sx.PureP (Go.Sx.AV.int Bool.false Go.IntKind.i64 (5 : Int)) (call3 35 [.agg [.int true .u8 k, .str true n, .str true a, .str true b, .str true c, .str true d, .flt true v, .int true .i64 ph]] (Go.Sx.G.on [false, false, false, false, false, true, false, false, false, false, false, true])) := by
  have e : Go.Sx.pureP (Go.Sx.AV.int Bool.false Go.IntKind.i64 (5 : Int)) (call3 35 [.agg [.int true .u8 k, .str true n, .str true a, .str true b, .str true c, .str true d, .flt true v, .int true .i64 ph]] (Go.Sx.G.on [false, false, false, false, false, true, false, false, false, false, false, true])) = ((Go.Sx.AV.int Bool.false Go.IntKind.i64 (5 : Int)) = (Go.Sx.AV.int Bool.false Go.IntKind.i64 (5 : Int)) ∧ ((((((((((((True ∧ ((!Go.Proofs.Ytgjdeclenlgaeaa.rowOf_5 k) = Bool.false)) ∧ ((!Go.Proofs.Ytgjdeclenlgaeaa.name_1 n) = Bool.false)) ∧ ((!Decidable.decide (Go.Proofs.Ytgjdeclenlgaeaa.name_0 n = k)) = Bool.false)) ∧ ((!Go.Proofs.Ytgjdeclenlgaeaa.node_0 a) = Bool.false)) ∧ ((!Go.Proofs.Ytgjdeclenlgaeaa.node_0 b) = Bool.false)) ∧ (Go.Proofs.Ytgjdeclenlgaeaa.rowOf_3 k = Bool.true)) ∧ ((!Go.Proofs.Ytgjdeclenlgaeaa.node_0 c) = Bool.false)) ∧ ((!Go.Proofs.Ytgjdeclenlgaeaa.node_0 d) = Bool.false)) ∧ ((a == b) = Bool.false)) ∧ ((!Go.Proofs.Ytgjdeclenlgaeaa.rowOf_3 k) = Bool.false)) ∧ ((!Go.Proofs.Ytgjdeclenlgaeaa.rowOf_4 k) = Bool.false)) ∧ (Decidable.decide ((2 : Int) < Go.Sx.kindDef v) = Bool.true))) := by kernel_rfl
  exact ⟨by rw [e]; exact ⟨rfl, ⟨⟨⟨⟨⟨⟨⟨⟨⟨⟨⟨⟨trivial, c0⟩, c1⟩, c2⟩, c3⟩, c4⟩, c5⟩, c6⟩, c7⟩, c8⟩, c9⟩, c10⟩, c11⟩⟩⟩
theorem chk_r2 (k : Int) (n a b c d : List UInt8) (v : Nat) (ph : Int) (c0 : (!Go.Proofs.Ytgjdeclenlgaeaa.rowOf_5 k) = Bool.false) (c1 : (!Go.Proofs.Ytgjdeclenlgaeaa.name_1 n) = Bool.false) (c2 : (!Decidable.decide (Go.Proofs.Ytgjdeclenlgaeaa.name_0 n = k)) = Bool.false) (c3 : (!Go.Proofs.Ytgjdeclenlgaeaa.node_0 a) = Bool.false) (c4 : (!Go.Proofs.Ytgjdeclenlgaeaa.node_0 b) = Bool.false) (c5 : Go.Proofs.Ytgjdeclenlgaeaa.rowOf_3 k = Bool.true) (c6 : (!Go.Proofs.Ytgjdeclenlgaeaa.node_0 c) = Bool.false) (c7 : (!Go.Proofs.Ytgjdeclenlgaeaa.node_0 d) = Bool.false) (c8 : (a == b) = Bool.false) (c9 : (!Go.Proofs.Ytgjdeclenlgaeaa.rowOf_3 k) = Bool.false) (c10 : (!Go.Proofs.Ytgjdeclenlgaeaa.rowOf_4 k) = Bool.false) (c11 : Decidable.decide ((2 : Int) < Go.Sx.kindDef v) = Bool.false) (c12 : Go.Proofs.Ytgjdeclenlgaeaa.rowOf_2 k = Bool.true) (c13 : Go.Sx.fle v (Go.Sx.cn (0 : Nat)) = Bool.true) : Go.Sx.PureP (Go.Sx.AV.int Bool.false Go.IntKind.i64 (2 : Int)) (call3 35 [.agg [.int true .u8 k, .str true n, .str true a, .str true b, .str true c, .str true d, .flt true v, .int true .i64 ph]] (Go.Sx.G.on [false, false, false, false, false, true, false, false, false, false, false, false, true, true])) := by
  have e : Go.Sx.pureP (Go.Sx.AV.int Bool.false Go.IntKind.i64 (2 : Int)) (call3 35 [.agg [.int true .u8 k, .str true n, .str true a, .str true b, .str true c, .str true d, .flt true v, .int true .i64 ph]] (Go.Sx.G.on [false, false, false, false, false, true, false, false, false, false, false, false, true, true])) = ((Go.Sx.AV.int Bool.false Go.IntKind.i64 (2 : Int)) = (Go.Sx.AV.int Bool.false Go.IntKind.i64 (2 : Int)) ∧ ((((((((((((((True ∧ ((!Go.Proofs.Ytgjdeclenlgaeaa.rowOf_5 k) = Bool.false)) ∧ ((!Go.Proofs.Ytgjdeclenlgaeaa.name_1 n) = Bool.false)) ∧ ((!Decidable.decide (Go.Proofs.Ytgjdeclenlgaeaa.name_0 n = k)) = Bool.false)) ∧ ((!Go.Proofs.Ytgjdeclenlgaeaa.node_0 a) = Bool.false)) ∧ ((!Go.Proofs.Ytgjdeclenlgaeaa.node_0 b) = Bool.false)) ∧ (Go.Proofs.Ytgjdeclenlgaeaa.rowOf_3 k = Bool.true)) ∧ ((!Go.Proofs.Ytgjdeclenlgaeaa.node_0 c) = Bool.false)) ∧ ((!Go.Proofs.Ytgjdeclenlgaeaa.node_0 d) = Bool.false)) ∧ ((a == b) = Bool.false)) ∧ ((!Go.Proofs.Ytgjdeclenlgaeaa.rowOf_3 k) = Bool.false)) ∧ ((!Go.Proofs.Ytgjdeclenlgaeaa.rowOf_4 k) = Bool.false)) ∧ (Decidable.decide ((2 : Int) < Go.Sx.kindDef v) = Bool.false)) ∧ (Go.Proofs.Ytgjdeclenlgaeaa.rowOf_2 k = Bool.true)) ∧ (Go.Sx.fle v (Go.Sx.cn (0 : Nat)) = Bool.true))) := by kernel_rfl
  exact ⟨by rw [e]; exact ⟨rfl, ⟨⟨⟨⟨⟨⟨⟨⟨⟨⟨⟨⟨⟨⟨trivial, c0⟩, c1⟩, c2⟩, c3⟩, c4⟩, c5⟩, c6⟩, c7⟩, c8⟩, c9⟩, c10⟩, c11⟩, c12⟩, c13⟩⟩⟩
theorem chk_r3 (k : Int) (n a b c d : List UInt8) (v : Nat) (ph : Int) (c0 : (!Go.Proofs.Ytgjdeclenlgaeaa.rowOf_5 k) = Bool.false) (c1 : (!Go.Proofs.Ytgjdeclenlgaeaa.name_1 n) = Bool.false) (c2 : (!Decidable.decide (Go.Proofs.Ytgjdeclenlgaeaa.name_0 n = k)) = Bool.false) (c3 : (!Go.Proofs.Ytgjdeclenlgaeaa.node_0 a) = Bool.false) (c4 : (!Go.Proofs.Ytgjdeclenlgaeaa.node_0 b) = Bool.false) (c5 : Go.Proofs.Ytgjdeclenlgaeaa.rowOf_3 k = Bool.true) (c6 : (!Go.Proofs.Ytgjdeclenlgaeaa.node_0 c) = Bool.false) (c7 : (!Go.Proofs.Ytgjdeclenlgaeaa.node_0 d) = Bool.false) (c8 : (a == b) = Bool.false) (c9 : (!Go.Proofs.Ytgjdeclenlgaeaa.rowOf_3 k) = Bool.false) (c10 : (!Go.Proofs.Ytgjdeclenlgaeaa.rowOf_4 k) = Bool.false) (c11 : Decidable.decide ((2 : Int) < Go.Sx.kindDef v) = Bool.false) (c12 : Go.Proofs.Ytgjdeclenlgaeaa.rowOf_2 k = Bool.true) (c13 : Go.Sx.fle v (Go.Sx.cn (0 : Nat)) = Bool.false) : Go.Sx.PureP (Go.Sx.AV.int Bool.false Go.IntKind.i64 (0 : Int)) (call3 35 [.agg [.int true .u8 k, .str true n, .str true a, .str true b, .str true c, .str true d, .flt true v, .int true .i64 ph]] (Go.Sx.G.on [false, false, false, false, false, true, false, false, false, false, false, false, true, false])) := by
  have e : Go.Sx.pureP (Go.Sx.AV.int Bool.false Go.IntKind.i64 (0 : Int)) (call3 35 [.agg [.int true .u8 k, .str true n, .str true a, .str true b, .str true c, .str true d, .flt true v, .int true .i64 ph]] (Go.Sx.G.on [false, false, false, false, false, true, false, false, false, false, false, false, true, false])) = ((Go.Sx.AV.int Bool.false Go.IntKind.i64 (0 : Int)) = (Go.Sx.AV.int Bool.false Go.IntKind.i64 (0 : Int)) ∧ ((((((((((((((True ∧ ((!Go.Proofs.Ytgjdeclenlgaeaa.rowOf_5 k) = Bool.false)) ∧ ((!Go.Proofs.Ytgjdeclenlgaeaa.name_1 n) = Bool.false)) ∧ ((!Decidable.decide (Go.Proofs.Ytgjdeclenlgaeaa.name_0 n = k)) = Bool.false)) ∧ ((!Go.Proofs.Ytgjdeclenlgaeaa.node_0 a) = Bool.false)) ∧ ((!Go.Proofs.Ytgjdeclenlgaeaa.node_0 b) = Bool.false)) ∧ (Go.Proofs.Ytgjdeclenlgaeaa.rowOf_3 k = Bool.true)) ∧ ((!Go.Proofs.Ytgjdeclenlgaeaa.node_0 c) = Bool.false)) ∧ ((!Go.Proofs.Ytgjdeclenlgaeaa.node_0 d) = Bool.false)) ∧ ((a == b) = Bool.false)) ∧ ((!Go.Proofs.Ytgjdeclenlgaeaa.rowOf_3 k) = Bool.false)) ∧ ((!Go.Proofs.Ytgjdeclenlgaeaa.rowOf_4 k) = Bool.false)) ∧ (Decidable.decide ((2 : Int) < Go.Sx.kindDef v) = Bool.false)) ∧ (Go.Proofs.Ytgjdeclenlgaeaa.rowOf_2 k = Bool.true)) ∧ (Go.Sx.fle v (Go.Sx.cn (0 : Nat)) = Bool.false))) := by kernel_rfl
  exact ⟨by rw [e]; exact ⟨rfl, ⟨⟨⟨⟨⟨⟨⟨⟨⟨⟨⟨⟨⟨⟨trivial, c0⟩, c1⟩, c2⟩, c3⟩, c4⟩, c5⟩, c6⟩, c7⟩, c8⟩, c9⟩, c10⟩, c11⟩, c12⟩, c13⟩⟩⟩
theorem chk_r4 (k : Int) (n a b c d : List UInt8) (v : Nat) (ph : Int) (c0 : (!Go.Proofs.Ytgjdeclenlgaeaa.rowOf_5 k) = Bool.false) (c1 : (!Go.Proofs.Ytgjdeclenlgaeaa.name_1 n) = Bool.false) (c2 : (!Decidable.decide (Go.Proofs.Ytgjdeclenlgaeaa.name_0 n = k)) = Bool.false) (c3 : (!Go.Proofs.Ytgjdeclenlgaeaa.node_0 a) = Bool.false) (c4 : (!Go.Proofs.Ytgjdeclenlgaeaa.node_0 b) = Bool.false) (c5 : Go.Proofs.Ytgjdeclenlgaeaa.rowOf_3 k = Bool.true) (c6 : (!Go.Proofs.Ytgjdeclenlgaeaa.node_0 c) = Bool.false) (c7 : (!Go.Proofs.Ytgjdeclenlgaeaa.node_0 d) = Bool.false) (c8 : (a == b) = Bool.false) (c9 : (!Go.Proofs.Ytgjdeclenlgaeaa.rowOf_3 k) = Bool.false) (c10 : (!Go.Proofs.Ytgjdeclenlgaeaa.rowOf_4 k) = Bool.false) (c11 : Decidable.decide ((2 : Int) < Go.Sx.kindDef v) = Bool.false) (c12 : Go.Proofs.Ytgjdeclenlgaeaa.rowOf_2 k = Bool.false) : Go.Sx.PureP (Go.Sx.AV.int Bool.false Go.IntKind.i64 (0 : Int)) (call3 35 [.agg [.int true .u8 k, .str true n, .str true a, .str true b, .str true c, .str true d, .flt true v, .int true .i64 ph]] (Go.Sx.G.on [false, false, false, false, false, true, false, false, false, false, false, false, false])) := by
  have e : Go.Sx.pureP (Go.Sx.AV.int Bool.false Go.IntKind.i64 (0 : Int)) (call3 35 [.agg [.int true .u8 k, .str true n, .str true a, .str true b, .str true c, .str true d, .flt true v, .int true .i64 ph]] (Go.Sx.G.on [false, false, false, false, false, true, false, false, false, false, false, false, false])) = ((Go.Sx.AV.int Bool.false Go.IntKind.i64 (0 : Int)) = (Go.Sx.AV.int Bool.false Go.IntKind.i64 (0 : Int)) ∧ (((((((((((((True ∧ ((!Go.Proofs.Ytgjdeclenlgaeaa.rowOf_5 k) = Bool.false)) ∧ ((!Go.Proofs.Ytgjdeclenlgaeaa.name_1 n) = Bool.false)) ∧ ((!Decidable.decide (Go.Proofs.Ytgjdeclenlgaeaa.name_0 n = k)) = Bool.false)) ∧ ((!Go.Proofs.Ytgjdeclenlgaeaa.node_0 a) = Bool.false)) ∧ ((!Go.Proofs.Ytgjdeclenlgaeaa.node_0 b) = Bool.false)) ∧ (Go.Proofs.Ytgjdeclenlgaeaa.rowOf_3 k = Bool.true)) ∧ ((!Go.Proofs.Ytgjdeclenlgaeaa.node_0 c) = Bool.false)) ∧ ((!Go.Proofs.Ytgjdeclenlgaeaa.node_0 d) = Bool.false)) ∧ ((a == b) = Bool.false)) ∧ ((!Go.Proofs.Ytgjdeclenlgaeaa.rowOf_3 k) = Bool.false)) ∧ ((!Go.Proofs.Ytgjdeclenlgaeaa.rowOf_4 k) = Bool.false)) ∧ (Decidable.decide ((2 : Int) < Go.Sx.kindDef v) = Bool.false)) ∧ (Go.Proofs.Ytgjdeclenlgaeaa.rowOf_2 k = Bool.false))) := by kernel_rfl
  exact ⟨by rw [e]; exact ⟨rfl, ⟨⟨⟨⟨⟨⟨⟨⟨⟨⟨⟨⟨⟨trivial, c0⟩, c1⟩, c2⟩, c3⟩, c4⟩, c5⟩, c6⟩, c7⟩, c8⟩, c9⟩, c10⟩, c11⟩, c12⟩⟩⟩
theorem chk_r5 (k : Int) (n a b c d : List UInt8) (v : Nat) (ph : Int) (c0 : (!Go.Proofs.Ytgjdeclenlgaeaa.rowOf_5 k) = Bool.false) (c1 : (!Go.Proofs.Ytgjdeclenlgaeaa.name_1 n) = Bool.false) (c2 : (!Decidable.decide (Go.Proofs.Ytgjdeclenlgaeaa.name_0 n = k)) = Bool.false) (c3 : (!Go.Proofs.Ytgjdeclenlgaeaa.node_0 a) = Bool.false) (c4 : (!Go.Proofs.Ytgjdeclenlgaeaa.node_0 b) = Bool.false) (c5 : Go.Proofs.Ytgjdeclenlgaeaa.rowOf_3 k = Bool.true) (c6 : (!Go.Proofs.Ytgjdeclenlgaeaa.node_0 c) = Bool.false) (c7 : (!Go.Proofs.Ytgjdeclenlgaeaa.node_0 d) = Bool.false) (c8 : (a == b) = Bool.false) (c9 : (!Go.Proofs.Ytgjdeclenlgaeaa.rowOf_3 k) = Bool.false) (c10 : (!Go.Proofs.Ytgjdeclenlgaeaa.rowOf_4 k) = Bool.true) (c11 : (!Decidable.decide (ph = (0 : Int))) = Bool.false) (c12 : Decidable.decide ((2 : Int) < Go.Sx.kindDef v) = Bool.true) : Go.Sx.PureP (Go.Sx.AV.int Bool.false Go.IntKind.i64 (5 : Int)) (call3 35 [.agg [.int true .u8 k, .str true n, .str true a, .str true b, .str true c, .str true d, .flt true v, .int true .i64 ph]] (Go.Sx.G.on [false, false, false, false, false, true, false, false, false, false, true, false, true])) := by
  have e : Go.Sx.pureP (Go.Sx.AV.int Bool.false Go.IntKind.i64 (5 : Int)) (call3 35 [.agg [.int true .u8 k, .str true n, .str true a, .str true b, .str true c, .str true d, .flt true v, .int true .i64 ph]] (Go.Sx.G.on [false, false, false, false, false, true, false, false, false, false, true, false, true])) = ((Go.Sx.AV.int Bool.false Go.IntKind.i64 (5 : Int)) = (Go.Sx.AV.int Bool.false Go.IntKind.i64 (5 : Int)) ∧ (((((((((((((True ∧ ((!Go.Proofs.Ytgjdeclenlgaeaa.rowOf_5 k) = Bool.false)) ∧ ((!Go.Proofs.Ytgjdeclenlgaeaa.name_1 n) = Bool.false)) ∧ ((!Decidable.decide (Go.Proofs.Ytgjdeclenlgaeaa.name_0 n = k)) = Bool.false)) ∧ ((!Go.Proofs.Ytgjdeclenlgaeaa.node_0 a) = Bool.false)) ∧ ((!Go.Proofs.Ytgjdeclenlgaeaa.node_0 b) = Bool.false)) ∧ (Go.Proofs.Ytgjdeclenlgaeaa.rowOf_3 k = Bool.true)) ∧ ((!Go.Proofs.Ytgjdeclenlgaeaa.node_0 c) = Bool.false)) ∧ ((!Go.Proofs.Ytgjdeclenlgaeaa.node_0 d) = Bool.false)) ∧ ((a == b) = Bool.false)) ∧ ((!Go.Proofs.Ytgjdeclenlgaeaa.rowOf_3 k) = Bool.false)) ∧ ((!Go.Proofs.Ytgjdeclenlgaeaa.rowOf_4 k) = Bool.true)) ∧ ((!Decidable.decide (ph = (0 : Int))) = Bool.false)) ∧ (Decidable.decide ((2 : Int) < Go.Sx.kindDef v) = Bool.true))) := by kernel_rfl
  exact ⟨by rw [e]; exact ⟨rfl, ⟨⟨⟨⟨⟨⟨⟨⟨⟨⟨⟨⟨⟨trivial, c0⟩, c1⟩, c2⟩, c3⟩, c4⟩, c5⟩, c6⟩, c7⟩, c8⟩, c9⟩, c10⟩, c11⟩, c12⟩⟩⟩
theorem chk_r6 (k : Int) (n a b c d : List UInt8) (v : Nat) (ph : Int) (c0 : (!Go.Proofs.Ytgjdeclenlgaeaa.rowOf_5 k) = Bool.false) (c1 : (!Go.Proofs.Ytgjdeclenlgaeaa.name_1 n) = Bool.false) (c2 : (!Decidable.decide (Go.Proofs.Ytgjdeclenlgaeaa.name_0 n = k)) = Bool.false) (c3 : (!Go.Proofs.Ytgjdeclenlgaeaa.node_0 a) = Bool.false) (c4 : (!Go.Proofs.Ytgjdeclenlgaeaa.node_0 b) = Bool.false) (c5 : Go.Proofs.Ytgjdeclenlgaeaa.rowOf_3 k = Bool.true) (c6 : (!Go.Proofs.Ytgjdeclenlgaeaa.node_0 c) = Bool.false) (c7 : (!Go.Proofs.Ytgjdeclenlgaeaa.node_0 d) = Bool.false) (c8 : (a == b) = Bool.false) (c9 : (!Go.Proofs.Ytgjdeclenlgaeaa.rowOf_3 k) = Bool.false) (c10 : (!Go.Proofs.Ytgjdeclenlgaeaa.rowOf_4 k) = Bool.true) (c11 : (!Decidable.decide (ph = (0 : Int))) = Bool.false) (c12 : Decidable.decide ((2 : Int) < Go.Sx.kindDef v) = Bool.false) (c13 : Go.Proofs.Ytgjdeclenlgaeaa.rowOf_2 k = Bool.true) (c14 : Go.Sx.fle v (Go.Sx.cn (0 : Nat)) = Bool.true) : Go.Sx.PureP (Go.Sx.AV.int Bool.false Go.IntKind.i64 (2 : Int)) (call3 35 [.agg [.int true .u8 k, .str true n, .str true a, .str true b, .str true c, .str true d, .flt true v, .int true .i64 ph]] (Go.Sx.G.on [false, false, false, false, false, true, false, false, false, false, true, false, false, true, true])) := by
  have e : Go.Sx.pureP (Go.Sx.AV.int Bool.false Go.IntKind.i64 (2 : Int)) (call3 35 [.agg [.int true .u8 k, .str true n, .str true a, .str true b, .str true c, .str true d, .flt true v, .int true .i64 ph]] (Go.Sx.G.on [false, false, false, false, false, true, false, false, false, false, true, false, false, true, true])) = ((Go.Sx.AV.int Bool.false Go.IntKind.i64 (2 : Int)) = (Go.Sx.AV.int Bool.false Go.IntKind.i64 (2 : Int)) ∧ (((((((((((((((True ∧ ((!Go.Proofs.Ytgjdeclenlgaeaa.rowOf_5 k) = Bool.false)) ∧ ((!Go.Proofs.Ytgjdeclenlgaeaa.name_1 n) = Bool.false)) ∧ ((!Decidable.decide (Go.Proofs.Ytgjdeclenlgaeaa.name_0 n = k)) = Bool.false)) ∧ ((!Go.Proofs.Ytgjdeclenlgaeaa.node_0 a) = Bool.false)) ∧ ((!Go.Proofs.Ytgjdeclenlgaeaa.node_0 b) = Bool.false)) ∧ (Go.Proofs.Ytgjdeclenlgaeaa.rowOf_3 k = Bool.true)) ∧ ((!Go.Proofs.Ytgjdeclenlgaeaa.node_0 c) = Bool.false)) ∧ ((!Go.Proofs.Ytgjdeclenlgaeaa.node_0 d) = Bool.false)) ∧ ((a == b) = Bool.false)) ∧ ((!Go.Proofs.Ytgjdeclenlgaeaa.rowOf_3 k) = Bool.false)) ∧ ((!Go.Proofs.Ytgjdeclenlgaeaa.rowOf_4 k) = Bool.true)) ∧ ((!Decidable.decide (ph = (0 : Int))) = Bool.false)) ∧ (Decidable.decide ((2 : Int) < Go.Sx.kindDef v) = Bool.false)) ∧ (Go.Proofs.Ytgjdeclenlgaeaa.rowOf_2 k = Bool.true)) ∧ (Go.Sx.fle v (Go.Sx.cn (0 : Nat)) = Bool.true))) := by kernel_rfl
  exact ⟨by rw [e]; exact ⟨rfl, ⟨⟨⟨⟨⟨⟨⟨⟨⟨⟨⟨⟨⟨⟨⟨trivial, c0⟩, c1⟩, c2⟩, c3⟩, c4⟩, c5⟩, c6⟩, c7⟩, c8⟩, c9⟩, c10⟩, c11⟩, c12⟩, c13⟩, c14⟩⟩⟩
theorem chk_r7 (k : Int) (n a b c d : List UInt8) (v : Nat) (ph : Int) (c0 : (!Go.Proofs.Ytgjdeclenlgaeaa.rowOf_5 k) = Bool.false) (c1 : (!Go.Proofs.Ytgjdeclenlgaeaa.name_1 n) = Bool.false) (c2 : (!Decidable.decide (Go.Proofs.Ytgjdeclenlgaeaa.name_0 n = k)) = Bool.false) (c3 : (!Go.Proofs.Ytgjdeclenlgaeaa.node_0 a) = Bool.false) (c4 : (!Go.Proofs.Ytgjdeclenlgaeaa.node_0 b) = Bool.false) (c5 : Go.Proofs.Ytgjdeclenlgaeaa.rowOf_3 k = Bool.true) (c6 : (!Go.Proofs.Ytgjdeclenlgaeaa.node_0 c) = Bool.false) (c7 : (!Go.Proofs.Ytgjdeclenlgaeaa.node_0 d) = Bool.false) (c8 : (a == b) = Bool.false) (c9 : (!Go.Proofs.Ytgjdeclenlgaeaa.rowOf_3 k) = Bool.false) (c10 : (!Go.Proofs.Ytgjdeclenlgaeaa.rowOf_4 k) = Bool.true) (c11 : (!Decidable.decide (ph = (0 : Int))) = Bool.false) (c12 : Decidable.decide ((2 : Int) < Go.Sx.kindDef v) = Bool.false) (c13 : Go.Proofs.Ytgjdeclenlgaeaa.rowOf_2 k = Bool.true) (c14 : Go.Sx.fle v (Go.Sx.cn (0 : Nat)) = Bool.false) : Go.Sx.PureP (Go.Sx.AV.int Bool.false Go.IntKind.i64 (0 : Int)) (call3 35 [.agg [.int true .u8 k, .str true n, .str true a, .str true b, .str true c, .str true d, .flt true v, .int true .i64 ph]] (Go.Sx.G.on [false, false, false, false, false, true, false, false, false, false, true, false, false, true, false])) := by
  have e : Go.Sx.pureP (Go.Sx.AV.int Bool.false Go.IntKind.i64 (0 : Int)) (call3 35 [.agg [.int true .u8 k, .str true n, .str true a, .str true b, .str true c, .str true d, .flt true v, .int true .i64 ph]] (Go.Sx.G.on [false, false, false, false, false, true, false, false, false, false, true, false, false, true, false])) = ((Go.Sx.AV.int Bool.false Go.IntKind.i64 (0 : Int)) = (Go.Sx.AV.int Bool.false Go.IntKind.i64 (0 : Int)) ∧ (((((((((((((((True ∧ ((!Go.Proofs.Ytgjdeclenlgaeaa.rowOf_5 k) = Bool.false)) ∧ ((!Go.Proofs.Ytgjdeclenlgaeaa.name_1 n) = Bool.false)) ∧ ((!Decidable.decide (Go.Proofs.Ytgjdeclenlgaeaa.name_0 n = k)) = Bool.false)) ∧ ((!Go.Proofs.Ytgjdeclenlgaeaa.node_0 a) = Bool.false)) ∧ ((!Go.Proofs.Ytgjdeclenlgaeaa.node_0 b) = Bool.false)) ∧ (Go.Proofs.Ytgjdeclenlgaeaa.rowOf_3 k = Bool.true)) ∧ ((!Go.Proofs.Ytgjdeclenlgaeaa.node_0 c) = Bool.false)) ∧ ((!Go.Proofs.Ytgjdeclenlgaeaa.node_0 d) = Bool.false)) ∧ ((a == b) = Bool.false)) ∧ ((!Go.Proofs.Ytgjdeclenlgaeaa.rowOf_3 k) = Bool.false)) ∧ ((!Go.Proofs.Ytgjdeclenlgaeaa.rowOf_4 k) = Bool.true)) ∧ ((!Decidable.decide (ph = (0 : Int))) = Bool.false)) ∧ (Decidable.decide ((2 : Int) < Go.Sx.kindDef v) = Bool.false)) ∧ (Go.Proofs.Ytgjdeclenlgaeaa.rowOf_2 k = Bool.true)) ∧ (Go.Sx.fle v (Go.Sx.cn (0 : Nat)) = Bool.false))) := by kernel_rfl
  exact ⟨by rw [e]; exact ⟨rfl, ⟨⟨⟨⟨⟨⟨⟨⟨⟨⟨⟨⟨⟨⟨⟨trivial, c0⟩, c1⟩, c2⟩, c3⟩, c4⟩, c5⟩, c6⟩, c7⟩, c8⟩, c9⟩, c10⟩, c11⟩, c12⟩, c13⟩, c14⟩⟩⟩
theorem chk_r8 (k : Int) (n a b c d : List UInt8) (v : Nat) (ph : Int) (c0 : (!Go.Proofs.Ytgjdeclenlgaeaa.rowOf_5 k) = Bool.false) (c1 : (!Go.Proofs.Ytgjdeclenlgaeaa.name_1 n) = Bool.false) (c2 : (!Decidable.decide (Go.Proofs.Ytgjdeclenlgaeaa.name_0 n = k)) = Bool.false) (c3 : (!Go.Proofs.Ytgjdeclenlgaeaa.node_0 a) = Bool.false) (c4 : (!Go.Proofs.Ytgjdeclenlgaeaa.node_0 b) = Bool.false) (c5 : Go.Proofs.Ytgjdeclenlgaeaa.rowOf_3 k = Bool.true) (c6 : (!Go.Proofs.Ytgjdeclenlgaeaa.node_0 c) = Bool.false) (c7 : (!Go.Proofs.Ytgjdeclenlgaeaa.node_0 d) = Bool.false) (c8 : (a == b) = Bool.false) (c9 : (!Go.Proofs.Ytgjdeclenlgaeaa.rowOf_3 k) = Bool.false) (c10 : (!Go.Proofs.Ytgjdeclenlgaeaa.rowOf_4 k) = Bool.true) (c11 : (!Decidable.decide (ph = (0 : Int))) = Bool.false) (c12 : Decidable.decide ((2 : Int) < Go.Sx.kindDef v) = Bool.false) (c13 : Go.Proofs.Ytgjdeclenlgaeaa.rowOf_2 k = Bool.false) : Go.Sx.PureP (Go.Sx.AV.int Bool.false Go.IntKind.i64 (0 : Int)) (call3 35 [.agg [.int true .u8 k, .str true n, .str true a, .str true b, .str true c, .str true d, .flt true v, .int true .i64 ph]] (Go.Sx.G.on [false, false, false, false, false, true, false, false, false, false, true, false, false, false])) := by
  have e : Go.Sx.pureP (Go.Sx.AV.int Bool.false Go.IntKind.i64 (0 : Int)) (call3 35 [.agg [.int true .u8 k, .str true n, .str true a, .str true b, .str true c, .str true d, .flt true v, .int true .i64 ph]] (Go.Sx.G.on [false, false, false, false, false, true, false, false, false, false, true, false, false, false])) = ((Go.Sx.AV.int Bool.false Go.IntKind.i64 (0 : Int)) = (Go.Sx.AV.int Bool.false Go.IntKind.i64 (0 : Int)) ∧ ((((((((((((((True ∧ ((!Go.Proofs.Ytgjdeclenlgaeaa.rowOf_5 k) = Bool.false)) ∧ ((!Go.Proofs.Ytgjdeclenlgaeaa.name_1 n) = Bool.false)) ∧ ((!Decidable.decide (Go.Proofs.Ytgjdeclenlgaeaa.name_0 n = k)) = Bool.false)) ∧ ((!Go.Proofs.Ytgjdeclenlgaeaa.node_0 a) = Bool.false)) ∧ ((!Go.Proofs.Ytgjdeclenlgaeaa.node_0 b) = Bool.false)) ∧ (Go.Proofs.Ytgjdeclenlgaeaa.rowOf_3 k = Bool.true)) ∧ ((!Go.Proofs.Ytgjdeclenlgaeaa.node_0 c) = Bool.false)) ∧ ((!Go.Proofs.Ytgjdeclenlgaeaa.node_0 d) = Bool.false)) ∧ ((a == b) = Bool.false)) ∧ ((!Go.Proofs.Ytgjdeclenlgaeaa.rowOf_3 k) = Bool.false)) ∧ ((!Go.Proofs.Ytgjdeclenlgaeaa.rowOf_4 k) = Bool.true)) ∧ ((!Decidable.decide (ph = (0 : Int))) = Bool.false)) ∧ (Decidable.decide ((2 : Int) < Go.Sx.kindDef v) = Bool.false)) ∧ (Go.Proofs.Ytgjdeclenlgaeaa.rowOf_2 k = Bool.false))) := by kernel_rfl
  exact ⟨by rw [e]; exact ⟨rfl, ⟨⟨⟨⟨⟨⟨⟨⟨⟨⟨⟨⟨⟨⟨trivial, c0⟩, c1⟩, c2⟩, c3⟩, c4⟩, c5⟩, c6⟩, c7⟩, c8⟩, c9⟩, c10⟩, c11⟩, c12⟩, c13⟩⟩⟩
theorem chk_r9 (k : Int) (n a b c d : List UInt8) (v : Nat) (ph : Int) (c0 : (!Go.Proofs.Ytgjdeclenlgaeaa.rowOf_5 k) = Bool.false) (c1 : (!Go.Proofs.Ytgjdeclenlgaeaa.name_1 n) = Bool.false) (c2 : (!Decidable.decide (Go.Proofs.Ytgjdeclenlgaeaa.name_0 n = k)) = Bool.false) (c3 : (!Go.Proofs.Ytgjdeclenlgaeaa.node_0 a) = Bool.false) (c4 : (!Go.Proofs.Ytgjdeclenlgaeaa.node_0 b) = Bool.false) (c5 : Go.Proofs.Ytgjdeclenlgaeaa.rowOf_3 k = Bool.true) (c6 : (!Go.Proofs.Ytgjdeclenlgaeaa.node_0 c) = Bool.false) (c7 : (!Go.Proofs.Ytgjdeclenlgaeaa.node_0 d) = Bool.false) (c8 : (a == b) = Bool.false) (c9 : (!Go.Proofs.Ytgjdeclenlgaeaa.rowOf_3 k) = Bool.false) (c10 : (!Go.Proofs.Ytgjdeclenlgaeaa.rowOf_4 k) = Bool.true) (c11 : (!Decidable.decide (ph = (0 : Int))) = Bool.true) : Go.Sx.PureP (Go.Sx.AV.int Bool.false Go.IntKind.i64 (2 : Int)) (call3 35 [.agg [.int true .u8 k, .str true n, .str true a, .str true b, .str true c, .str true d, .flt true v, .int true .i64 ph]] (Go.Sx.G.on [false, false, false, false, false, true, false, false, false, false, true, true])) := by
  have e : Go.Sx.pureP (Go.Sx.AV.int Bool.false Go.IntKind.i64 (2 : Int)) (call3 35 [.agg [.int true .u8 k, .str true n, .str true a, .str true b, .str true c, .str true d, .flt true v, .int true .i64 ph]] (Go.Sx.G.on [false, false, false, false, false, true, false, false, false, false, true, true])) = ((Go.Sx.AV.int Bool.false Go.IntKind.i64 (2 : Int)) = (Go.Sx.AV.int Bool.false Go.IntKind.i64 (2 : Int)) ∧ ((((((((((((True ∧ ((!Go.Proofs.Ytgjdeclenlgaeaa.rowOf_5 k) = Bool.false)) ∧ ((!Go.Proofs.Ytgjdeclenlgaeaa.name_1 n) = Bool.false)) ∧ ((!Decidable.decide (Go.Proofs.Ytgjdeclenlgaeaa.name_0 n = k)) = Bool.false)) ∧ ((!Go.Proofs.Ytgjdeclenlgaeaa.node_0 a) = Bool.false)) ∧ ((!Go.Proofs.Ytgjdeclenlgaeaa.node_0 b) = Bool.false)) ∧ (Go.Proofs.Ytgjdeclenlgaeaa.rowOf_3 k = Bool.true)) ∧ ((!Go.Proofs.Ytgjdeclenlgaeaa.node_0 c) = Bool.false)) ∧ ((!Go.Proofs.Ytgjdeclenlgaeaa.node_0 d) = Bool.false)) ∧ ((a == b) = Bool.false)) ∧ ((!Go.Proofs.Ytgjdeclenlgaeaa.rowOf_3 k) = Bool.false)) ∧ ((!Go.Proofs.Ytgjdeclenlgaeaa.rowOf_4 k) = Bool.true)) ∧ ((!Decidable.decide (ph = (0 : Int))) = Bool.true))) := by kernel_rfl
  exact ⟨by rw [e]; exact ⟨rfl, ⟨⟨⟨⟨⟨⟨⟨⟨⟨⟨⟨⟨trivial, c0⟩, c1⟩, c2⟩, c3⟩, c4⟩, c5⟩, c6⟩, c7⟩, c8⟩, c9⟩, c10⟩, c11⟩⟩⟩
theorem chk_r10 (k : Int) (n a b c d : List UInt8) (v : Nat) (ph : Int) (c0 : (!Go.Proofs.Ytgjdeclenlgaeaa.rowOf_5 k) = Bool.false) (c1 : (!Go.Proofs.Ytgjdeclenlgaeaa.name_1 n) = Bool.false) (c2 : (!Decidable.decide (Go.Proofs.Ytgjdeclenlgaeaa.name_0 n = k)) = Bool.false) (c3 : (!Go.Proofs.Ytgjdeclenlgaeaa.node_0 a) = Bool.false) (c4 : (!Go.Proofs.Ytgjdeclenlgaeaa.node_0 b) = Bool.false) (c5 : Go.Proofs.Ytgjdeclenlgaeaa.rowOf_3 k = Bool.true) (c6 : (!Go.Proofs.Ytgjdeclenlgaeaa.node_0 c) = Bool.false) (c7 : (!Go.Proofs.Ytgjdeclenlgaeaa.node_0 d) = Bool.true) : Go.Sx.PureP (Go.Sx.AV.int Bool.false Go.IntKind.i64 (8 : Int)) (call3 35 [.agg [.int true .u8 k, .str true n, .str true a, .str true b, .str true c, .str true d, .flt true v, .int true .i64 ph]] (Go.Sx.G.on [false, false, false, false, false, true, false, true])) := by
  have e : Go.Sx.pureP (Go.Sx.AV.int Bool.false Go.IntKind.i64 (8 : Int)) (call3 35 [.agg [.int true .u8 k, .str true n, .str true a, .str true b, .str true c, .str true d, .flt true v, .int true .i64 ph]] (Go.Sx.G.on [false, false, false, false, false, true, false, true])) = ((Go.Sx.AV.int Bool.false Go.IntKind.i64 (8 : Int)) = (Go.Sx.AV.int Bool.false Go.IntKind.i64 (8 : Int)) ∧ ((((((((True ∧ ((!Go.Proofs.Ytgjdeclenlgaeaa.rowOf_5 k) = Bool.false)) ∧ ((!Go.Proofs.Ytgjdeclenlgaeaa.name_1 n) = Bool.false)) ∧ ((!Decidable.decide (Go.Proofs.Ytgjdeclenlgaeaa.name_0 n = k)) = Bool.false)) ∧ ((!Go.Proofs.Ytgjdeclenlgaeaa.node_0 a) = Bool.false)) ∧ ((!Go.Proofs.Ytgjdeclenlgaeaa.node_0 b) = Bool.false)) ∧ (Go.Proofs.Ytgjdeclenlgaeaa.rowOf_3 k = Bool.true)) ∧ ((!Go.Proofs.Ytgjdeclenlgaeaa.node_0 c) = Bool.false)) ∧ ((!Go.Proofs.Ytgjdeclenlgaeaa.node_0 d) = Bool.true))) := by kernel_rfl
  exact ⟨by rw [e]; exact ⟨rfl, ⟨⟨⟨⟨⟨⟨⟨⟨trivial, c0⟩, c1⟩, c2⟩, c3⟩, c4⟩, c5⟩, c6⟩, c7⟩⟩⟩
theorem chk_r11 (k : Int) (n a b c d : List UInt8) (v : Nat) (ph : Int) (c0 : (!Go.Proofs.Ytgjdeclenlgaeaa.rowOf_5 k) = Bool.false) (c1 : (!Go.Proofs.Ytgjdeclenlgaeaa.name_1 n) = Bool.false) (c2 : (!Decidable.decide (Go.Proofs.Ytgjdeclenlgaeaa.name_0 n = k)) = Bool.false) (c3 : (!Go.Proofs.Ytgjdeclenlgaeaa.node_0 a) = Bool.false) (c4 : (!Go.Proofs.Ytgjdeclenlgaeaa.node_0 b) = Bool.false) (c5 : Go.Proofs.Ytgjdeclenlgaeaa.rowOf_3 k = Bool.true) (c6 : (!Go.Proofs.Ytgjdeclenlgaeaa.node_0 c) = Bool.true) : Go.Sx.PureP (Go.Sx.AV.int Bool.false Go.IntKind.i64 (8 : Int)) (call3 35 [.agg [.int true .u8 k, .str true n, .str true a, .str true b, .str true c, .str true d, .flt true v, .int true .i64 ph]] (Go.Sx.G.on [false, false, false, false, false, true, true])) := by
  have e : Go.Sx.pureP (Go.Sx.AV.int Bool.false Go.IntKind.i64 (8 : Int)) (call3 35 [.agg [.int true .u8 k, .str true n, .str true a, .str true b, .str true c, .str true d, .flt true v, .int true .i64 ph]] (Go.Sx.G.on [false, false, false, false, false, true, true])) = ((Go.Sx.AV.int Bool.false Go.IntKind.i64 (8 : Int)) = (Go.Sx.AV.int Bool.false Go.IntKind.i64 (8 : Int)) ∧ (((((((True ∧ ((!Go.Proofs.Ytgjdeclenlgaeaa.rowOf_5 k) = Bool.false)) ∧ ((!Go.Proofs.Ytgjdeclenlgaeaa.name_1 n) = Bool.false)) ∧ ((!Decidable.decide (Go.Proofs.Ytgjdeclenlgaeaa.name_0 n = k)) = Bool.false)) ∧ ((!Go.Proofs.Ytgjdeclenlgaeaa.node_0 a) = Bool.false)) ∧ ((!Go.Proofs.Ytgjdeclenlgaeaa.node_0 b) = Bool.false)) ∧ (Go.Proofs.Ytgjdeclenlgaeaa.rowOf_3 k = Bool.true)) ∧ ((!Go.Proofs.Ytgjdeclenlgaeaa.node_0 c) = Bool.true))) := by kernel_rfl
  exact ⟨by rw [e]; exact ⟨rfl, ⟨⟨⟨⟨⟨⟨⟨trivial, c0⟩, c1⟩, c2⟩, c3⟩, c4⟩, c5⟩, c6⟩⟩⟩
theorem chk_r12 (k : Int) (n a b c d : List UInt8) (v : Nat) (ph : Int) (c0 : (!Go.Proofs.Ytgjdeclenlgaeaa.rowOf_5 k) = Bool.false) (c1 : (!Go.Proofs.Ytgjdeclenlgaeaa.name_1 n) = Bool.false) (c2 : (!Decidable.decide (Go.Proofs.Ytgjdeclenlgaeaa.name_0 n = k)) = Bool.false) (c3 : (!Go.Proofs.Ytgjdeclenlgaeaa.node_0 a) = Bool.false) (c4 : (!Go.Proofs.Ytgjdeclenlgaeaa.node_0 b) = Bool.false) (c5 : Go.Proofs.Ytgjdeclenlgaeaa.rowOf_3 k = Bool.false) (c6 : (a == b) = Bool.true) : Go.Sx.PureP (Go.Sx.AV.int Bool.false Go.IntKind.i64 (2 : Int)) (call3 35 [.agg [.int true .u8 k, .str true n, .str true a, .str true b, .str true c, .str true d, .flt true v, .int true .i64 ph]] (Go.Sx.G.on [false, false, false, false, false, false, true])) := by
  have e : Go.Sx.pureP (Go.Sx.AV.int Bool.false Go.IntKind.i64 (2 : Int)) (call3 35 [.agg [.int true .u8 k, .str true n, .str true a, .str true b, .str true c, .str true d, .flt true v, .int true .i64 ph]] (Go.Sx.G.on [false, false, false, false, false, false, true])) = ((Go.Sx.AV.int Bool.false Go.IntKind.i64 (2 : Int)) = (Go.Sx.AV.int Bool.false Go.IntKind.i64 (2 : Int)) ∧ (((((((True ∧ ((!Go.Proofs.Ytgjdeclenlgaeaa.rowOf_5 k) = Bool.false)) ∧ ((!Go.Proofs.Ytgjdeclenlgaeaa.name_1 n) = Bool.false)) ∧ ((!Decidable.decide (Go.Proofs.Ytgjdeclenlgaeaa.name_0 n = k)) = Bool.false)) ∧ ((!Go.Proofs.Ytgjdeclenlgaeaa.node_0 a) = Bool.false)) ∧ ((!Go.Proofs.Ytgjdeclenlgaeaa.node_0 b) = Bool.false)) ∧ (Go.Proofs.Ytgjdeclenlgaeaa.rowOf_3 k = Bool.false)) ∧ ((a == b) = Bool.true))) := by kernel_rfl
  exact ⟨by rw [e]; exact ⟨rfl, ⟨⟨⟨⟨⟨⟨⟨trivial, c0⟩, c1⟩, c2⟩, c3⟩, c4⟩, c5⟩, c6⟩⟩⟩
theorem chk_r13 (k : Int) (n a b c d : List UInt8) (v : Nat) (ph : Int) (c0 : (!Go.Proofs.Ytgjdeclenlgaeaa.rowOf_5 k) = Bool.false) (c1 : (!Go.Proofs.Ytgjdeclenlgaeaa.name_1 n) = Bool.false) (c2 : (!Decidable.decide (Go.Proofs.Ytgjdeclenlgaeaa.name_0 n = k)) = Bool.false) (c3 : (!Go.Proofs.Ytgjdeclenlgaeaa.node_0 a) = Bool.false) (c4 : (!Go.Proofs.Ytgjdeclenlgaeaa.node_0 b) = Bool.false) (c5 : Go.Proofs.Ytgjdeclenlgaeaa.rowOf_3 k = Bool.false) (c6 : (a == b) = Bool.false) (c7 : (!Go.Proofs.Ytgjdeclenlgaeaa.rowOf_3 k) = Bool.true) (c8 : (!c == []) = Bool.false) (c9 : (!d == []) = Bool.false) (c10 : (!Go.Proofs.Ytgjdeclenlgaeaa.rowOf_4 k) = Bool.false) (c11 : Decidable.decide ((2 : Int) < Go.Sx.kindDef v) = Bool.true) : Go.Sx.PureP (Go.Sx.AV.int Bool.false Go.IntKind.i64 (5 : Int)) (call3 35 [.agg [.int true .u8 k, .str true n, .str true a, .str true b, .str true c, .str true d, .flt true v, .int true .i64 ph]] (Go.Sx.G.on [false, false, false, false, false, false, false, true, false, false, false, true])) := by
  have e : Go.Sx.pureP (Go.Sx.AV.int Bool.false Go.IntKind.i64 (5 : Int)) (call3 35 [.agg [.int true .u8 k, .str true n, .str true a, .str true b, .str true c, .str true d, .flt true v, .int true .i64 ph]] (Go.Sx.G.on [false, false, false, false, false, false, false, true, false, false, false, true])) = ((Go.Sx.AV.int Bool.false Go.IntKind.i64 (5 : Int)) = (Go.Sx.AV.int Bool.false Go.IntKind.i64 (5 : Int)) ∧ ((((((((((((True ∧ ((!Go.Proofs.Ytgjdeclenlgaeaa.rowOf_5 k) = Bool.false)) ∧ ((!Go.Proofs.Ytgjdeclenlgaeaa.name_1 n) = Bool.false)) ∧ ((!Decidable.decide (Go.Proofs.Ytgjdeclenlgaeaa.name_0 n = k)) = Bool.false)) ∧ ((!Go.Proofs.Ytgjdeclenlgaeaa.node_0 a) = Bool.false)) ∧ ((!Go.Proofs.Ytgjdeclenlgaeaa.node_0 b) = Bool.false)) ∧ (Go.Proofs.Ytgjdeclenlgaeaa.rowOf_3 k = Bool.false)) ∧ ((a == b) = Bool.false)) ∧ ((!Go.Proofs.Ytgjdeclenlgaeaa.rowOf_3 k) = Bool.true)) ∧ ((!c == []) = Bool.false)) ∧ ((!d == []) = Bool.false)) ∧ ((!Go.Proofs.Ytgjdeclenlgaeaa.rowOf_4 k) = Bool.false)) ∧ (Decidable.decide ((2 : Int) < Go.Sx.kindDef v) = Bool.true))) := by kernel_rfl
  exact ⟨by rw [e]; exact ⟨rfl, ⟨⟨⟨⟨⟨⟨⟨⟨⟨⟨⟨⟨trivial, c0⟩, c1⟩, c2⟩, c3⟩, c4⟩, c5⟩, c6⟩, c7⟩, c8⟩, c9⟩, c10⟩, c11⟩⟩⟩
theorem chk_r14 (k : Int) (n a b c d : List UInt8) (v : Nat) (ph : Int) (c0 : (!Go.Proofs.Ytgjdeclenlgaeaa.rowOf_5 k) = Bool.false) (c1 : (!Go.Proofs.Ytgjdeclenlgaeaa.name_1 n) = Bool.false) (c2 : (!Decidable.decide (Go.Proofs.Ytgjdeclenlgaeaa.name_0 n = k)) = Bool.false) (c3 : (!Go.Proofs.Ytgjdeclenlgaeaa.node_0 a) = Bool.false) (c4 : (!Go.Proofs.Ytgjdeclenlgaeaa.node_0 b) = Bool.false) (c5 : Go.Proofs.Ytgjdeclenlgaeaa.rowOf_3 k = Bool.false) (c6 : (a == b) = Bool.false) (c7 : (!Go.Proofs.Ytgjdeclenlgaeaa.rowOf_3 k) = Bool.true) (c8 : (!c == []) = Bool.false) (c9 : (!d == []) = Bool.false) (c10 : (!Go.Proofs.Ytgjdeclenlgaeaa.rowOf_4 k) = Bool.false) (c11 : Decidable.decide ((2 : Int) < Go.Sx.kindDef v) = Bool.false) (c12 : Go.Proofs.Ytgjdeclenlgaeaa.rowOf_2 k = Bool.true) (c13 : Go.Sx.fle v (Go.Sx.cn (0 : Nat)) = Bool.true) : Go.Sx.PureP (Go.Sx.AV.int Bool.false Go.IntKind.i64 (2 : Int)) (call3 35 [.agg [.int true .u8 k, .str true n, .str true a, .str true b, .str true c, .str true d, .flt true v, .int true .i64 ph]] (Go.Sx.G.on [false, false, false, false, false, false, false, true, false, false, false, false, true, true])) := by
  have e : Go.Sx.pureP (Go.Sx.AV.int Bool.false Go.IntKind.i64 (2 : Int)) (call3 35 [.agg [.int true .u8 k, .str true n, .str true a, .str true b, .str true c, .str true d, .flt true v, .int true .i64 ph]] (Go.Sx.G.on [false, false, false, false, false, false, false, true, false, false, false, false, true, true])) = ((Go.Sx.AV.int Bool.false Go.IntKind.i64 (2 : Int)) = (Go.Sx.AV.int Bool.false Go.IntKind.i64 (2 : Int)) ∧ ((((((((((((((True ∧ ((!Go.Proofs.Ytgjdeclenlgaeaa.rowOf_5 k) = Bool.false)) ∧ ((!Go.Proofs.Ytgjdeclenlgaeaa.name_1 n) = Bool.false)) ∧ ((!Decidable.decide (Go.Proofs.Ytgjdeclenlgaeaa.name_0 n = k)) = Bool.false)) ∧ ((!Go.Proofs.Ytgjdeclenlgaeaa.node_0 a) = Bool.false)) ∧ ((!Go.Proofs.Ytgjdeclenlgaeaa.node_0 b) = Bool.false)) ∧ (Go.Proofs.Ytgjdeclenlgaeaa.rowOf_3 k = Bool.false)) ∧ ((a == b) = Bool.false)) ∧ ((!Go.Proofs.Ytgjdeclenlgaeaa.rowOf_3 k) = Bool.true)) ∧ ((!c == []) = Bool.false)) ∧ ((!d == []) = Bool.false)) ∧ ((!Go.Proofs.Ytgjdeclenlgaeaa.rowOf_4 k) = Bool.false)) ∧ (Decidable.decide ((2 : Int) < Go.Sx.kindDef v) = Bool.false)) ∧ (Go.Proofs.Ytgjdeclenlgaeaa.rowOf_2 k = Bool.true)) ∧ (Go.Sx.fle v (Go.Sx.cn (0 : Nat)) = Bool.true))) := by kernel_rfl
  exact ⟨by rw [e]; exact ⟨rfl, ⟨⟨⟨⟨⟨⟨⟨⟨⟨⟨⟨⟨⟨⟨trivial, c0⟩, c1⟩, c2⟩, c3⟩, c4⟩, c5⟩, c6⟩, c7⟩, c8⟩, c9⟩, c10⟩, c11⟩, c12⟩, c13⟩⟩⟩
theorem chk_r15 (k : Int) (n a b c d : List UInt8) (v : Nat) (ph : Int) (c0 : (!Go.Proofs.Ytgjdeclenlgaeaa.rowOf_5 k) = Bool.false) (c1 : (!Go.Proofs.Ytgjdeclenlgaeaa.name_1 n) = Bool.false) (c2 : (!Decidable.decide (Go.Proofs.Ytgjdeclenlgaeaa.name_0 n = k)) = Bool.false) (c3 : (!Go.Proofs.Ytgjdeclenlgaeaa.node_0 a) = Bool.false) (c4 : (!Go.Proofs.Ytgjdeclenlgaeaa.node_0 b) = Bool.false) (c5 : Go.Proofs.Ytgjdeclenlgaeaa.rowOf_3 k = Bool.false) (c6 : (a == b) = Bool.false) (c7 : (!Go.Proofs.Ytgjdeclenlgaeaa.rowOf_3 k) = Bool.true) (c8 : (!c == []) = Bool.false) (c9 : (!d == []) = Bool.false) (c10 : (!Go.Proofs.Ytgjdeclenlgaeaa.rowOf_4 k) = Bool.false) (c11 : Decidable.decide ((2 : Int) < Go.Sx.kindDef v) = Bool.false) (c12 : Go.Proofs.Ytgjdeclenlgaeaa.rowOf_2 k = Bool.true) (c13 : Go.Sx.fle v (Go.Sx.cn (0 : Nat)) = Bool.false) : Go.Sx.PureP (Go.Sx.AV.int Bool.false Go.IntKind.i64 (0 : Int)) (call3 35 [.agg [.int true .u8 k, .str true n, .str true a, .str true b, .str true c, .str true d, .flt true v, .int true .i64 ph]] (Go.Sx.G.on [false, false, false, false, false, false, false, true, false, false, false, false, true, false])) := by
  have e : Go.Sx.pureP (Go.Sx.AV.int Bool.false Go.IntKind.i64 (0 : Int)) (call3 35 [.agg [.int true .u8 k, .str true n, .str true a, .str true b, .str true c, .str true d, .flt true v, .int true .i64 ph]] (Go.Sx.G.on [false, false, false, false, false, false, false, true, false, false, false, false, true, false])) = ((Go.Sx.AV.int Bool.false Go.IntKind.i64 (0 : Int)) = (Go.Sx.AV.int Bool.false Go.IntKind.i64 (0 : Int)) ∧ ((((((((((((((True ∧ ((!Go.Proofs.Ytgjdeclenlgaeaa.rowOf_5 k) = Bool.false)) ∧ ((!Go.Proofs.Ytgjdeclenlgaeaa.name_1 n) = Bool.false)) ∧ ((!Decidable.decide (Go.Proofs.Ytgjdeclenlgaeaa.name_0 n = k)) = Bool.false)) ∧ ((!Go.Proofs.Ytgjdeclenlgaeaa.node_0 a) = Bool.false)) ∧ ((!Go.Proofs.Ytgjdeclenlgaeaa.node_0 b) = Bool.false)) ∧ (Go.Proofs.Ytgjdeclenlgaeaa.rowOf_3 k = Bool.false)) ∧ ((a == b) = Bool.false)) ∧ ((!Go.Proofs.Ytgjdeclenlgaeaa.rowOf_3 k) = Bool.true)) ∧ ((!c == []) = Bool.false)) ∧ ((!d == []) = Bool.false)) ∧ ((!Go.Proofs.Ytgjdeclenlgaeaa.rowOf_4 k) = Bool.false)) ∧ (Decidable.decide ((2 : Int) < Go.Sx.kindDef v) = Bool.false)) ∧ (Go.Proofs.Ytgjdeclenlgaeaa.rowOf_2 k = Bool.true)) ∧ (Go.Sx.fle v (Go.Sx.cn (0 : Nat)) = Bool.false))) := by kernel_rfl
  exact ⟨by rw [e]; exact ⟨rfl, ⟨⟨⟨⟨⟨⟨⟨⟨⟨⟨⟨⟨⟨⟨trivial, c0⟩, c1⟩, c2⟩, c3⟩, c4⟩, c5⟩, c6⟩, c7⟩, c8⟩, c9⟩, c10⟩, c11⟩, c12⟩, c13⟩⟩⟩
theorem chk_r16 (k : Int) (n a b c d : List UInt8) (v : Nat) (ph : Int) (c0 : (!Go.Proofs.Ytgjdeclenlgaeaa.rowOf_5 k) = Bool.false) (c1 : (!Go.Proofs.Ytgjdeclenlgaeaa.name_1 n) = Bool.false) (c2 : (!Decidable.decide (Go.Proofs.Ytgjdeclenlgaeaa.name_0 n = k)) = Bool.false) (c3 : (!Go.Proofs.Ytgjdeclenlgaeaa.node_0 a) = Bool.false) (c4 : (!Go.Proofs.Ytgjdeclenlgaeaa.node_0 b) = Bool.false) (c5 : Go.Proofs.Ytgjdeclenlgaeaa.rowOf_3 k = Bool.false) (c6 : (a == b) = Bool.false) (c7 : (!Go.Proofs.Ytgjdeclenlgaeaa.rowOf_3 k) = Bool.true) (c8 : (!c == []) = Bool.false) (c9 : (!d == []) = Bool.false) (c10 : (!Go.Proofs.Ytgjdeclenlgaeaa.rowOf_4 k) = Bool.false) (c11 : Decidable.decide ((2 : Int) < Go.Sx.kindDef v) = Bool.false) (c12 : Go.Proofs.Ytgjdeclenlgaeaa.rowOf_2 k = Bool.false) : Go.Sx.PureP (Go.Sx.AV.int Bool.false Go.IntKind.i64 (0 : Int)) (call3 35 [.agg [.int true .u8 k, .str true n, .str true a, .str true b, .str true c, .str true d, .flt true v, .int true .i64 ph]] (Go.Sx.G.on [false, false, false, false, false, false, false, true, false, false, false, false, false])) := by
  have e : Go.Sx.pureP (Go.Sx.AV.int Bool.false Go.IntKind.i64 (0 : Int)) (call3 35 [.agg [.int true .u8 k, .str true n, .str true a, .str true b, .str true c, .str true d, .flt true v, .int true .i64 ph]] (Go.Sx.G.on [false, false, false, false, false, false, false, true, false, false, false, false, false])) = ((Go.Sx.AV.int Bool.false Go.IntKind.i64 (0 : Int)) = (Go.Sx.AV.int Bool.false Go.IntKind.i64 (0 : Int)) ∧ (((((((((((((True ∧ ((!Go.Proofs.Ytgjdeclenlgaeaa.rowOf_5 k) = Bool.false)) ∧ ((!Go.Proofs.Ytgjdeclenlgaeaa.name_1 n) = Bool.false)) ∧ ((!Decidable.decide (Go.Proofs.Ytgjdeclenlgaeaa.name_0 n = k)) = Bool.false)) ∧ ((!Go.Proofs.Ytgjdeclenlgaeaa.node_0 a) = Bool.false)) ∧ ((!Go.Proofs.Ytgjdeclenlgaeaa.node_0 b) = Bool.false)) ∧ (Go.Proofs.Ytgjdeclenlgaeaa.rowOf_3 k = Bool.false)) ∧ ((a == b) = Bool.false)) ∧ ((!Go.Proofs.Ytgjdeclenlgaeaa.rowOf_3 k) = Bool.true)) ∧ ((!c == []) = Bool.false)) ∧ ((!d == []) = Bool.false)) ∧ ((!Go.Proofs.Ytgjdeclenlgaeaa.rowOf_4 k) = Bool.false)) ∧ (Decidable.decide ((2 : Int) < Go.Sx.kindDef v) = Bool.false)) ∧ (Go.Proofs.Ytgjdeclenlgaeaa.rowOf_2 k = Bool.false))) := by kernel_rfl
  exact ⟨by rw [e]; exact ⟨rfl, ⟨⟨⟨⟨⟨⟨⟨⟨⟨⟨⟨⟨⟨trivial, c0⟩, c1⟩, c2⟩, c3⟩, c4⟩, c5⟩, c6⟩, c7⟩, c8⟩, c9⟩, c10⟩, c11⟩, c12⟩⟩⟩
theorem chk_r17 (k : Int) (n a b c d : List UInt8) (v : Nat) (ph : Int) (c0 : (!Go.Proofs.Ytgjdeclenlgaeaa.rowOf_5 k) = Bool.false) (c1 : (!Go.Proofs.Ytgjdeclenlgaeaa.name_1 n) = Bool.false) (c2 : (!Decidable.decide (Go.Proofs.Ytgjdeclenlgaeaa.name_0 n = k)) = Bool.false) (c3 : (!Go.Proofs.Ytgjdeclenlgaeaa.node_0 a) = Bool.false) (c4 : (!Go.Proofs.Ytgjdeclenlgaeaa.node_0 b) = Bool.false) (c5 : Go.Proofs.Ytgjdeclenlgaeaa.rowOf_3 k = Bool.false) (c6 : (a == b) = Bool.false) (c7 : (!Go.Proofs.Ytgjdeclenlgaeaa.rowOf_3 k) = Bool.true) (c8 : (!c == []) = Bool.false) (c9 : (!d == []) = Bool.false) (c10 : (!Go.Proofs.Ytgjdeclenlgaeaa.rowOf_4 k) = Bool.true) (c11 : (!Decidable.decide (ph = (0 : Int))) = Bool.false) (c12 : Decidable.decide ((2 : Int) < Go.Sx.kindDef v) = Bool.true) : Go.Sx.PureP (Go.Sx.AV.int Bool.false Go.IntKind.i64 (5 : Int)) (call3 35 [.agg [.int true .u8 k, .str true n, .str true a, .str true b, .str true c, .str true d, .flt true v, .int true .i64 ph]] (Go.Sx.G.on [false, false, false, false, false, false, false, true, false, false, true, false, true])) := by
  have e : Go.Sx.pureP (Go.Sx.AV.int Bool.false Go.IntKind.i64 (5 : Int)) (call3 35 [.agg [.int true .u8 k, .str true n, .str true a, .str true b, .str true c, .str true d, .flt true v, .int true .i64 ph]] (Go.Sx.G.on [false, false, false, false, false, false, false, true, false, false, true, false, true])) = ((Go.Sx.AV.int Bool.false Go.IntKind.i64 (5 : Int)) = (Go.Sx.AV.int Bool.false Go.IntKind.i64 (5 : Int)) ∧ (((((((((((((True ∧ ((!Go.Proofs.Ytgjdeclenlgaeaa.rowOf_5 k) = Bool.false)) ∧ ((!Go.Proofs.Ytgjdeclenlgaeaa.name_1 n) = Bool.false)) ∧ ((!Decidable.decide (Go.Proofs.Ytgjdeclenlgaeaa.name_0 n = k)) = Bool.false)) ∧ ((!Go.Proofs.Ytgjdeclenlgaeaa.node_0 a) = Bool.false)) ∧ ((!Go.Proofs.Ytgjdeclenlgaeaa.node_0 b) = Bool.false)) ∧ (Go.Proofs.Ytgjdeclenlgaeaa.rowOf_3 k = Bool.false)) ∧ ((a == b) = Bool.false)) ∧ ((!Go.Proofs.Ytgjdeclenlgaeaa.rowOf_3 k) = Bool.true)) ∧ ((!c == []) = Bool.false)) ∧ ((!d == []) = Bool.false)) ∧ ((!Go.Proofs.Ytgjdeclenlgaeaa.rowOf_4 k) = Bool.true)) ∧ ((!Decidable.decide (ph = (0 : Int))) = Bool.false)) ∧ (Decidable.decide ((2 : Int) < Go.Sx.kindDef v) = Bool.true))) := by kernel_rfl
  exact ⟨by rw [e]; exact ⟨rfl, ⟨⟨⟨⟨⟨⟨⟨⟨⟨⟨⟨⟨⟨trivial, c0⟩, c1⟩, c2⟩, c3⟩, c4⟩, c5⟩, c6⟩, c7⟩, c8⟩, c9⟩, c10⟩, c11⟩, c12⟩⟩⟩
theorem chk_r18 (k : Int) (n a b c d : List UInt8) (v : Nat) (ph : Int) (c0 : (!Go.Proofs.Ytgjdeclenlgaeaa.rowOf_5 k) = Bool.false) (c1 : (!Go.Proofs.Ytgjdeclenlgaeaa.name_1 n) = Bool.false) (c2 : (!Decidable.decide (Go.Proofs.Ytgjdeclenlgaeaa.name_0 n = k)) = Bool.false) (c3 : (!Go.Proofs.Ytgjdeclenlgaeaa.node_0 a) = Bool.false) (c4 : (!Go.Proofs.Ytgjdeclenlgaeaa.node_0 b) = Bool.false) (c5 : Go.Proofs.Ytgjdeclenlgaeaa.rowOf_3 k = Bool.false) (c6 : (a == b) = Bool.false) (c7 : (!Go.Proofs.Ytgjdeclenlgaeaa.rowOf_3 k) = Bool.true) (c8 : (!c == []) = Bool.false) (c9 : (!d == []) = Bool.false) (c10 : (!Go.Proofs.Ytgjdeclenlgaeaa.rowOf_4 k) = Bool.true) (c11 : (!Decidable.decide (ph = (0 : Int))) = Bool.false) (c12 : Decidable.decide ((2 : Int) < Go.Sx.kindDef v) = Bool.false) (c13 : Go.Proofs.Ytgjdeclenlgaeaa.rowOf_2 k = Bool.true) (c14 : Go.Sx.fle v (Go.Sx.cn (0 : Nat)) = Bool.true) : Go.Sx.PureP (Go.Sx.AV.int Bool.false Go.IntKind.i64 (2 : Int)) (call3 35 [.agg [.int true .u8 k, .str true n, .str true a, .str true b, .str true c, .str true d, .flt true v, .int true .i64 ph]] (Go.Sx.G.on [false, false, false, false, false, false, false, true, false, false, true, false, false, true, true])) := by
  have e : Go.Sx.pureP (Go.Sx.AV.int Bool.false Go.IntKind.i64 (2 : Int)) (call3 35 [.agg [.int true .u8 k, .str true n, .str true a, .str true b, .str true c, .str true d, .flt true v, .int true .i64 ph]] (Go.Sx.G.on [false, false, false, false, false, false, false, true, false, false, true, false, false, true, true])) = ((Go.Sx.AV.int Bool.false Go.IntKind.i64 (2 : Int)) = (Go.Sx.AV.int Bool.false Go.IntKind.i64 (2 : Int)) ∧ (((((((((((((((True ∧ ((!Go.Proofs.Ytgjdeclenlgaeaa.rowOf_5 k) = Bool.false)) ∧ ((!Go.Proofs.Ytgjdeclenlgaeaa.name_1 n) = Bool.false)) ∧ ((!Decidable.decide (Go.Proofs.Ytgjdeclenlgaeaa.name_0 n = k)) = Bool.false)) ∧ ((!Go.Proofs.Ytgjdeclenlgaeaa.node_0 a) = Bool.false)) ∧ ((!Go.Proofs.Ytgjdeclenlgaeaa.node_0 b) = Bool.false)) ∧ (Go.Proofs.Ytgjdeclenlgaeaa.rowOf_3 k = Bool.false)) ∧ ((a == b) = Bool.false)) ∧ ((!Go.Proofs.Ytgjdeclenlgaeaa.rowOf_3 k) = Bool.true)) ∧ ((!c == []) = Bool.false)) ∧ ((!d == []) = Bool.false)) ∧ ((!Go.Proofs.Ytgjdeclenlgaeaa.rowOf_4 k) = Bool.true)) ∧ ((!Decidable.decide (ph = (0 : Int))) = Bool.false)) ∧ (Decidable.decide ((2 : Int) < Go.Sx.kindDef v) = Bool.false)) ∧ (Go.Proofs.Ytgjdeclenlgaeaa.rowOf_2 k = Bool.true)) ∧ (Go.Sx.fle v (Go.Sx.cn (0 : Nat)) = Bool.true))) := by kernel_rfl
  exact ⟨by rw [e]; exact ⟨rfl, ⟨⟨⟨⟨⟨⟨⟨⟨⟨⟨⟨⟨⟨⟨⟨trivial, c0⟩, c1⟩, c2⟩, c3⟩, c4⟩, c5⟩, c6⟩, c7⟩, c8⟩, c9⟩, c10⟩, c11⟩, c12⟩, c13⟩, c14⟩⟩⟩
theorem chk_r19 (k : Int) (n a b c d : List UInt8) (v : Nat) (ph : Int) (c0 : (!Go.Proofs.Ytgjdeclenlgaeaa.rowOf_5 k) = Bool.false) (c1 : (!Go.Proofs.Ytgjdeclenlgaeaa.name_1 n) = Bool.false) (c2 : (!Decidable.decide (Go.Proofs.Ytgjdeclenlgaeaa.name_0 n = k)) = Bool.false) (c3 : (!Go.Proofs.Ytgjdeclenlgaeaa.node_0 a) = Bool.false) (c4 : (!Go.Proofs.Ytgjdeclenlgaeaa.node_0 b) = Bool.false) (c5 : Go.Proofs.Ytgjdeclenlgaeaa.rowOf_3 k = Bool.false) (c6 : (a == b) = Bool.false) (c7 : (!Go.Proofs.Ytgjdeclenlgaeaa.rowOf_3 k) = Bool.true) (c8 : (!c == []) = Bool.false) (c9 : (!d == []) = Bool.false) (c10 : (!Go.Proofs.Ytgjdeclenlgaeaa.rowOf_4 k) = Bool.true) (c11 : (!Decidable.decide (ph = (0 : Int))) = Bool.false) (c12 : Decidable.decide ((2 : Int) < Go.Sx.kindDef v) = Bool.false) (c13 : Go.Proofs.Ytgjdeclenlgaeaa.rowOf_2 k = Bool.true) (c14 : Go.Sx.fle v (Go.Sx.cn (0 : Nat)) = Bool.false) : Go.Sx.PureP (Go.Sx.AV.int Bool.false Go.IntKind.i64 (0 : Int)) (call3 35 [.agg [.int true .u8 k, .str true n, .str true a, .str true b, .str true c, .str true d, .flt true v, .int true .i64 ph]] (Go.Sx.G.on [false, false, false, false, false, false, false, true, false, false, true, false, false, true, false])) := by
  have e : Go.Sx.pureP (Go.Sx.AV.int Bool.false Go.IntKind.i64 (0 : Int)) (call3 35 [.agg [.int true .u8 k, .str true n, .str true a, .str true b, .str true c, .str true d, .flt true v, .int true .i64 ph]] (Go.Sx.G.on [false, false, false, false, false, false, false, true, false, false, true, false, false, true, false])) = ((Go.Sx.AV.int Bool.false Go.IntKind.i64 (0 : Int)) = (Go.Sx.AV.int Bool.false Go.IntKind.i64 (0 : Int)) ∧ (((((((((((((((True ∧ ((!Go.Proofs.Ytgjdeclenlgaeaa.rowOf_5 k) = Bool.false)) ∧ ((!Go.Proofs.Ytgjdeclenlgaeaa.name_1 n) = Bool.false)) ∧ ((!Decidable.decide (Go.Proofs.Ytgjdeclenlgaeaa.name_0 n = k)) = Bool.false)) ∧ ((!Go.Proofs.Ytgjdeclenlgaeaa.node_0 a) = Bool.false)) ∧ ((!Go.Proofs.Ytgjdeclenlgaeaa.node_0 b) = Bool.false)) ∧ (Go.Proofs.Ytgjdeclenlgaeaa.rowOf_3 k = Bool.false)) ∧ ((a == b) = Bool.false)) ∧ ((!Go.Proofs.Ytgjdeclenlgaeaa.rowOf_3 k) = Bool.true)) ∧ ((!c == []) = Bool.false)) ∧ ((!d == []) = Bool.false)) ∧ ((!Go.Proofs.Ytgjdeclenlgaeaa.rowOf_4 k) = Bool.true)) ∧ ((!Decidable.decide (ph = (0 : Int))) = Bool.false)) ∧ (Decidable.decide ((2 : Int) < Go.Sx.kindDef v) = Bool.false)) ∧ (Go.Proofs.Ytgjdeclenlgaeaa.rowOf_2 k = Bool.true)) ∧ (Go.Sx.fle v (Go.Sx.cn (0 : Nat)) = Bool.false))) := by kernel_rfl
  exact ⟨by rw [e]; exact ⟨rfl, ⟨⟨⟨⟨⟨⟨⟨⟨⟨⟨⟨⟨⟨⟨⟨trivial, c0⟩, c1⟩, c2⟩, c3⟩, c4⟩, c5⟩, c6⟩, c7⟩, c8⟩, c9⟩, c10⟩, c11⟩, c12⟩, c13⟩, c14⟩⟩⟩
theorem chk_r20 (k : Int) (n a b c d : List UInt8) (v : Nat) (ph : Int) (c0 : (!Go.Proofs.Ytgjdeclenlgaeaa.rowOf_5 k) = Bool.false) (c1 : (!Go.Proofs.Ytgjdeclenlgaeaa.name_1 n) = Bool.false) (c2 : (!Decidable.decide (Go.Proofs.Ytgjdeclenlgaeaa.name_0 n = k)) = Bool.false) (c3 : (!Go.Proofs.Ytgjdeclenlgaeaa.node_0 a) = Bool.false) (c4 : (!Go.Proofs.Ytgjdeclenlgaeaa.node_0 b) = Bool.false) (c5 : Go.Proofs.Ytgjdeclenlgaeaa.rowOf_3 k = Bool.false) (c6 : (a == b) = Bool.false) (c7 : (!Go.Proofs.Ytgjdeclenlgaeaa.rowOf_3 k) = Bool.true) (c8 : (!c == []) = Bool.false) (c9 : (!d == []) = Bool.false) (c10 : (!Go.Proofs.Ytgjdeclenlgaeaa.rowOf_4 k) = Bool.true) (c11 : (!Decidable.decide (ph = (0 : Int))) = Bool.false) (c12 : Decidable.decide ((2 : Int) < Go.Sx.kindDef v) = Bool.false) (c13 : Go.Proofs.Ytgjdeclenlgaeaa.rowOf_2 k = Bool.false) : Go.Sx.PureP (Go.Sx.AV.int Bool.false Go.IntKind.i64 (0 : Int)) (call3 35 [.agg [.int true .u8 k, .str true n, .str true a, .str true b, .str true c, .str true d, .flt true v, .int true .i64 ph]] (Go.Sx.G.on [false, false, false, false, false, false, false, true, false, false, true, false, false, false])) := by
  have e : Go.Sx.pureP (Go.Sx.AV.int Bool.false Go.IntKind.i64 (0 : Int)) (call3 35 [.agg [.int true .u8 k, .str true n, .str true a, .str true b, .str true c, .str true d, .flt true v, .int true .i64 ph]] (Go.Sx.G.on [false, false, false, false, false, false, false, true, false, false, true, false, false, false])) = ((Go.Sx.AV.int Bool.false Go.IntKind.i64 (0 : Int)) = (Go.Sx.AV.int Bool.false Go.IntKind.i64 (0 : Int)) ∧ ((((((((((((((True ∧ ((!Go.Proofs.Ytgjdeclenlgaeaa.rowOf_5 k) = Bool.false)) ∧ ((!Go.Proofs.Ytgjdeclenlgaeaa.name_1 n) = Bool.false)) ∧ ((!Decidable.decide (Go.Proofs.Ytgjdeclenlgaeaa.name_0 n = k)) = Bool.false)) ∧ ((!Go.Proofs.Ytgjdeclenlgaeaa.node_0 a) = Bool.false)) ∧ ((!Go.Proofs.Ytgjdeclenlgaeaa.node_0 b) = Bool.false)) ∧ (Go.Proofs.Ytgjdeclenlgaeaa.rowOf_3 k = Bool.false)) ∧ ((a == b) = Bool.false)) ∧ ((!Go.Proofs.Ytgjdeclenlgaeaa.rowOf_3 k) = Bool.true)) ∧ ((!c == []) = Bool.false)) ∧ ((!d == []) = Bool.false)) ∧ ((!Go.Proofs.Ytgjdeclenlgaeaa.rowOf_4 k) = Bool.true)) ∧ ((!Decidable.decide (ph = (0 : Int))) = Bool.false)) ∧ (Decidable.decide ((2 : Int) < Go.Sx.kindDef v) = Bool.false)) ∧ (Go.Proofs.Ytgjdeclenlgaeaa.rowOf_2 k = Bool.false))) := by kernel_rfl
  exact ⟨by rw [e]; exact ⟨rfl, ⟨⟨⟨⟨⟨⟨⟨⟨⟨⟨⟨⟨⟨⟨trivial, c0⟩, c1⟩, c2⟩, c3⟩, c4⟩, c5⟩, c6⟩, c7⟩, c8⟩, c9⟩, c10⟩, c11⟩, c12⟩, c13⟩⟩⟩
theorem chk_r21 (k : Int) (n a b c d : List UInt8) (v : Nat) (ph : Int) (c0 : (!Go.Proofs.Ytgjdeclenlgaeaa.rowOf_5 k) = Bool.false) (c1 : (!Go.Proofs.Ytgjdeclenlgaeaa.name_1 n) = Bool.false) (c2 : (!Decidable.decide (Go.Proofs.Ytgjdeclenlgaeaa.name_0 n = k)) = Bool.false) (c3 : (!Go.Proofs.Ytgjdeclenlgaeaa.node_0 a) = Bool.false) (c4 : (!Go.Proofs.Ytgjdeclenlgaeaa.node_0 b) = Bool.false) (c5 : Go.Proofs.Ytgjdeclenlgaeaa.rowOf_3 k = Bool.false) (c6 : (a == b) = Bool.false) (c7 : (!Go.Proofs.Ytgjdeclenlgaeaa.rowOf_3 k) = Bool.true) (c8 : (!c == []) = Bool.false) (c9 : (!d == []) = Bool.false) (c10 : (!Go.Proofs.Ytgjdeclenlgaeaa.rowOf_4 k) = Bool.true) (c11 : (!Decidable.decide (ph = (0 : Int))) = Bool.true) : Go.Sx.PureP (Go.Sx.AV.int Bool.false Go.IntKind.i64 (2 : Int)) (call3 35 [.agg [.int true .u8 k, .str true n, .str true a, .str true b, .str true c, .str true d, .flt true v, .int true .i64 ph]] (Go.Sx.G.on [false, false, false, false, false, false, false, true, false, false, true, true])) := by
  have e : Go.Sx.pureP (Go.Sx.AV.int Bool.false Go.IntKind.i64 (2 : Int)) (call3 35 [.agg [.int true .u8 k, .str true n, .str true a, .str true b, .str true c, .str true d, .flt true v, .int true .i64 ph]] (Go.Sx.G.on [false, false, false, false, false, false, false, true, false, false, true, true])) = ((Go.Sx.AV.int Bool.false Go.IntKind.i64 (2 : Int)) = (Go.Sx.AV.int Bool.false Go.IntKind.i64 (2 : Int)) ∧ ((((((((((((True ∧ ((!Go.Proofs.Ytgjdeclenlgaeaa.rowOf_5 k) = Bool.false)) ∧ ((!Go.Proofs.Ytgjdeclenlgaeaa.name_1 n) = Bool.false)) ∧ ((!Decidable.decide (Go.Proofs.Ytgjdeclenlgaeaa.name_0 n = k)) = Bool.false)) ∧ ((!Go.Proofs.Ytgjdeclenlgaeaa.node_0 a) = Bool.false)) ∧ ((!Go.Proofs.Ytgjdeclenlgaeaa.node_0 b) = Bool.false)) ∧ (Go.Proofs.Ytgjdeclenlgaeaa.rowOf_3 k = Bool.false)) ∧ ((a == b) = Bool.false)) ∧ ((!Go.Proofs.Ytgjdeclenlgaeaa.rowOf_3 k) = Bool.true)) ∧ ((!c == []) = Bool.false)) ∧ ((!d == []) = Bool.false)) ∧ ((!Go.Proofs.Ytgjdeclenlgaeaa.rowOf_4 k) = Bool.true)) ∧ ((!Decidable.decide (ph = (0 : Int))) = Bool.true))) := by kernel_rfl
  exact ⟨by rw [e]; exact ⟨rfl, ⟨⟨⟨⟨⟨⟨⟨⟨⟨⟨⟨⟨trivial, c0⟩, c1⟩, c2⟩, c3⟩, c4⟩, c5⟩, c6⟩, c7⟩, c8⟩, c9⟩, c10⟩, c11⟩⟩⟩
theorem chk_r22 (k : Int) (n a b c d : List UInt8) (v : Nat) (ph : Int) (c0 : (!Go.Proofs.Ytgjdeclenlgaeaa.rowOf_5 k) = Bool.false) (c1 : (!Go.Proofs.Ytgjdeclenlgaeaa.name_1 n) = Bool.false) (c2 : (!Decidable.decide (Go.Proofs.Ytgjdeclenlgaeaa.name_0 n = k)) = Bool.false) (c3 : (!Go.Proofs.Ytgjdeclenlgaeaa.node_0 a) = Bool.false) (c4 : (!Go.Proofs.Ytgjdeclenlgaeaa.node_0 b) = Bool.false) (c5 : Go.Proofs.Ytgjdeclenlgaeaa.rowOf_3 k = Bool.false) (c6 : (a == b) = Bool.false) (c7 : (!Go.Proofs.Ytgjdeclenlgaeaa.rowOf_3 k) = Bool.true) (c8 : (!c == []) = Bool.false) (c9 : (!d == []) = Bool.true) : Go.Sx.PureP (Go.Sx.AV.int Bool.false Go.IntKind.i64 (2 : Int)) (call3 35 [.agg [.int true .u8 k, .str true n, .str true a, .str true b, .str true c, .str true d, .flt true v, .int true .i64 ph]] (Go.Sx.G.on [false, false, false, false, false, false, false, true, false, true])) := by
  have e : Go.Sx.pureP (Go.Sx.AV.int Bool.false Go.IntKind.i64 (2 : Int)) (call3 35 [.agg [.int true .u8 k, .str true n, .str true a, .str true b, .str true c, .str true d, .flt true v, .int true .i64 ph]] (Go.Sx.G.on [false, false, false, false, false, false, false, true, false, true])) = ((Go.Sx.AV.int Bool.false Go.IntKind.i64 (2 : Int)) = (Go.Sx.AV.int Bool.false Go.IntKind.i64 (2 : Int)) ∧ ((((((((((True ∧ ((!Go.Proofs.Ytgjdeclenlgaeaa.rowOf_5 k) = Bool.false)) ∧ ((!Go.Proofs.Ytgjdeclenlgaeaa.name_1 n) = Bool.false)) ∧ ((!Decidable.decide (Go.Proofs.Ytgjdeclenlgaeaa.name_0 n = k)) = Bool.false)) ∧ ((!Go.Proofs.Ytgjdeclenlgaeaa.node_0 a) = Bool.false)) ∧ ((!Go.Proofs.Ytgjdeclenlgaeaa.node_0 b) = Bool.false)) ∧ (Go.Proofs.Ytgjdeclenlgaeaa.rowOf_3 k = Bool.false)) ∧ ((a == b) = Bool.false)) ∧ ((!Go.Proofs.Ytgjdeclenlgaeaa.rowOf_3 k) = Bool.true)) ∧ ((!c == []) = Bool.false)) ∧ ((!d == []) = Bool.true))) := by kernel_rfl
  exact ⟨by rw [e]; exact ⟨rfl, ⟨⟨⟨⟨⟨⟨⟨⟨⟨⟨trivial, c0⟩, c1⟩, c2⟩, c3⟩, c4⟩, c5⟩, c6⟩, c7⟩, c8⟩, c9⟩⟩⟩
theorem chk_r23 (k : Int) (n a b c d : List UInt8) (v : Nat) (ph : Int) (c0 : (!Go.Proofs.Ytgjdeclenlgaeaa.rowOf_5 k) = Bool.false) (c1 : (!Go.Proofs.Ytgjdeclenlgaeaa.name_1 n) = Bool.false) (c2 : (!Decidable.decide (Go.Proofs.Ytgjdeclenlgaeaa.name_0 n = k)) = Bool.false) (c3 : (!Go.Proofs.Ytgjdeclenlgaeaa.node_0 a) = Bool.false) (c4 : (!Go.Proofs.Ytgjdeclenlgaeaa.node_0 b) = Bool.false) (c5 : Go.Proofs.Ytgjdeclenlgaeaa.rowOf_3 k = Bool.false) (c6 : (a == b) = Bool.false) (c7 : (!Go.Proofs.Ytgjdeclenlgaeaa.rowOf_3 k) = Bool.true) (c8 : (!c == []) = Bool.true) : Go.Sx.PureP (Go.Sx.AV.int Bool.false Go.IntKind.i64 (2 : Int)) (call3 35 [.agg [.int true .u8 k, .str true n, .str true a, .str true b, .str true c, .str true d, .flt true v, .int true .i64 ph]] (Go.Sx.G.on [false, false, false, false, false, false, false, true, true])) := by
  have e : Go.Sx.pureP (Go.Sx.AV.int Bool.false Go.IntKind.i64 (2 : Int)) (call3 35 [.agg [.int true .u8 k, .str true n, .str true a, .str true b, .str true c, .str true d, .flt true v, .int true .i64 ph]] (Go.Sx.G.on [false, false, false, false, false, false, false, true, true])) = ((Go.Sx.AV.int Bool.false Go.IntKind.i64 (2 : Int)) = (Go.Sx.AV.int Bool.false Go.IntKind.i64 (2 : Int)) ∧ (((((((((True ∧ ((!Go.Proofs.Ytgjdeclenlgaeaa.rowOf_5 k) = Bool.false)) ∧ ((!Go.Proofs.Ytgjdeclenlgaeaa.name_1 n) = Bool.false)) ∧ ((!Decidable.decide (Go.Proofs.Ytgjdeclenlgaeaa.name_0 n = k)) = Bool.false)) ∧ ((!Go.Proofs.Ytgjdeclenlgaeaa.node_0 a) = Bool.false)) ∧ ((!Go.Proofs.Ytgjdeclenlgaeaa.node_0 b) = Bool.false)) ∧ (Go.Proofs.Ytgjdeclenlgaeaa.rowOf_3 k = Bool.false)) ∧ ((a == b) = Bool.false)) ∧ ((!Go.Proofs.Ytgjdeclenlgaeaa.rowOf_3 k) = Bool.true)) ∧ ((!c == []) = Bool.true))) := by kernel_rfl
  exact ⟨by rw [e]; exact ⟨rfl, ⟨⟨⟨⟨⟨⟨⟨⟨⟨trivial, c0⟩, c1⟩, c2⟩, c3⟩, c4⟩, c5⟩, c6⟩, c7⟩, c8⟩⟩⟩
theorem chk_r24 (k : Int) (n a b c d : List UInt8) (v : Nat) (ph : Int) (c0 : (!Go.Proofs.Ytgjdeclenlgaeaa.rowOf_5 k) = Bool.false) (c1 : (!Go.Proofs.Ytgjdeclenlgaeaa.name_1 n) = Bool.false) (c2 : (!Decidable.decide (Go.Proofs.Ytgjdeclenlgaeaa.name_0 n = k)) = Bool.false) (c3 : (!Go.Proofs.Ytgjdeclenlgaeaa.node_0 a) = Bool.false) (c4 : (!Go.Proofs.Ytgjdeclenlgaeaa.node_0 b) = Bool.true) : Go.Sx.PureP (Go.Sx.AV.int Bool.false Go.IntKind.i64 (8 : Int)) (call3 35 [.agg [.int true .u8 k, .str true n, .str true a, .str true b, .str true c, .str true d, .flt true v, .int true .i64 ph]] (Go.Sx.G.on [false, false, false, false, true])) := by
  have e : Go.Sx.pureP (Go.Sx.AV.int Bool.false Go.IntKind.i64 (8 : Int)) (call3 35 [.agg [.int true .u8 k, .str true n, .str true a, .str true b, .str true c, .str true d, .flt true v, .int true .i64 ph]] (Go.Sx.G.on [false, false, false, false, true])) = ((Go.Sx.AV.int Bool.false Go.IntKind.i64 (8 : Int)) = (Go.Sx.AV.int Bool.false Go.IntKind.i64 (8 : Int)) ∧ (((((True ∧ ((!Go.Proofs.Ytgjdeclenlgaeaa.rowOf_5 k) = Bool.false)) ∧ ((!Go.Proofs.Ytgjdeclenlgaeaa.name_1 n) = Bool.false)) ∧ ((!Decidable.decide (Go.Proofs.Ytgjdeclenlgaeaa.name_0 n = k)) = Bool.false)) ∧ ((!Go.Proofs.Ytgjdeclenlgaeaa.node_0 a) = Bool.false)) ∧ ((!Go.Proofs.Ytgjdeclenlgaeaa.node_0 b) = Bool.true))) := by kernel_rfl
  exact ⟨by rw [e]; exact ⟨rfl, ⟨⟨⟨⟨⟨trivial, c0⟩, c1⟩, c2⟩, c3⟩, c4⟩⟩⟩
theorem chk_r25 (k : Int) (n a b c d : List UInt8) (v : Nat) (ph : Int) (c0 : (!Go.Proofs.Ytgjdeclenlgaeaa.rowOf_5 k) = Bool.false) (c1 : (!Go.Proofs.Ytgjdeclenlgaeaa.name_1 n) = Bool.false) (c2 : (!Decidable.decide (Go.Proofs.Ytgjdeclenlgaeaa.name_0 n = k)) = Bool.false) (c3 : (!Go.Proofs.Ytgjdeclenlgaeaa.node_0 a) = Bool.true) : Go.Sx.PureP (Go.Sx.AV.int Bool.false Go.IntKind.i64 (8 : Int)) (call3 35 [.agg [.int true .u8 k, .str true n, .str true a, .str true b, .str true c, .str true d, .flt true v, .int true .i64 ph]] (Go.Sx.G.on [false, false, false, true])) := by
  have e : Go.Sx.pureP (Go.Sx.AV.int Bool.false Go.IntKind.i64 (8 : Int)) (call3 35 [.agg [.int true .u8 k, .str true n, .str true a, .str true b, .str true c, .str true d, .flt true v, .int true .i64 ph]] (Go.Sx.G.on [false, false, false, true])) = ((Go.Sx.AV.int Bool.false Go.IntKind.i64 (8 : Int)) = (Go.Sx.AV.int Bool.false Go.IntKind.i64 (8 : Int)) ∧ ((((True ∧ ((!Go.Proofs.Ytgjdeclenlgaeaa.rowOf_5 k) = Bool.false)) ∧ ((!Go.Proofs.Ytgjdeclenlgaeaa.name_1 n) = Bool.false)) ∧ ((!Decidable.decide (Go.Proofs.Ytgjdeclenlgaeaa.name_0 n = k)) = Bool.false)) ∧ ((!Go.Proofs.Ytgjdeclenlgaeaa.node_0 a) = Bool.true))) := by kernel_rfl
  exact ⟨by rw [e]; exact ⟨rfl, ⟨⟨⟨⟨trivial, c0⟩, c1⟩, c2⟩, c3⟩⟩⟩
theorem chk_r26 (k : Int) (n a b c d : List UInt8) (v : Nat) (ph : Int) (c0 : (!Go.Proofs.Ytgjdeclenlgaeaa.rowOf_5 k) = Bool.false) (c1 : (!Go.Proofs.Ytgjdeclenlgaeaa.name_1 n) = Bool.false) (c2 : (!Decidable.decide (Go.Proofs.Ytgjdeclenlgaeaa.name_0 n = k)) = Bool.true) : Go.Sx.PureP (Go.Sx.AV.int Bool.false Go.IntKind.i64 (8 : Int)) (call3 35 [.agg [.int true .u8 k, .str true n, .str true a, .str true b, .str true c, .str true d, .flt true v, .int true .i64 ph]] (Go.Sx.G.on [false, false, true])) := by
  have e : Go.Sx.pureP (Go.Sx.AV.int Bool.false Go.IntKind.i64 (8 : Int)) (call3 35 [.agg [.int true .u8 k, .str true n, .str true a, .str true b, .str true c, .str true d, .flt true v, .int true .i64 ph]] (Go.Sx.G.on [false, false, true])) = ((Go.Sx.AV.int Bool.false Go.IntKind.i64 (8 : Int)) = (Go.Sx.AV.int Bool.false Go.IntKind.i64 (8 : Int)) ∧ (((True ∧ ((!Go.Proofs.Ytgjdeclenlgaeaa.rowOf_5 k) = Bool.false)) ∧ ((!Go.Proofs.Ytgjdeclenlgaeaa.name_1 n) = Bool.false)) ∧ ((!Decidable.decide (Go.Proofs.Ytgjdeclenlgaeaa.name_0 n = k)) = Bool.true))) := by kernel_rfl
  exact ⟨by rw [e]; exact ⟨rfl, ⟨⟨⟨trivial, c0⟩, c1⟩, c2⟩⟩⟩
theorem chk_r27 (k : Int) (n a b c d : List UInt8) (v : Nat) (ph : Int) (c0 : (!Go.Proofs.Ytgjdeclenlgaeaa.rowOf_5 k) = Bool.false) (c1 : (!Go.Proofs.Ytgjdeclenlgaeaa.name_1 n) = Bool.true) : Go.Sx.PureP (Go.Sx.AV.int Bool.false Go.IntKind.i64 (8 : Int)) (call3 35 [.agg [.int true .u8 k, .str true n, .str true a, .str true b, .str true c, .str true d, .flt true v, .int true .i64 ph]] (Go.Sx.G.on [false, true])) := by
  have e : Go.Sx.pureP (Go.Sx.AV.int Bool.false Go.IntKind.i64 (8 : Int)) (call3 35 [.agg [.int true .u8 k, .str true n, .str true a, .str true b, .str true c, .str true d, .flt true v, .int true .i64 ph]] (Go.Sx.G.on [false, true])) = ((Go.Sx.AV.int Bool.false Go.IntKind.i64 (8 : Int)) = (Go.Sx.AV.int Bool.false Go.IntKind.i64 (8 : Int)) ∧ ((True ∧ ((!Go.Proofs.Ytgjdeclenlgaeaa.rowOf_5 k) = Bool.false)) ∧ ((!Go.Proofs.Ytgjdeclenlgaeaa.name_1 n) = Bool.true))) := by kernel_rfl
  exact ⟨by rw [e]; exact ⟨rfl, ⟨⟨trivial, c0⟩, c1⟩⟩⟩
theorem chk_r28 (k : Int) (n a b c d : List UInt8) (v : Nat) (ph : Int) (c0 : (!Go.Proofs.Ytgjdeclenlgaeaa.rowOf_5 k) = Bool.true) : Go.Sx.PureP (Go.Sx.AV.int Bool.false Go.IntKind.i64 (2 : Int)) (call3 35 [.agg [.int true .u8 k, .str true n, .str true a, .str true b, .str true c, .str true d, .flt true v, .int true .i64 ph]] (Go.Sx.G.on [true])) := by
  have e : Go.Sx.pureP (Go.Sx.AV.int Bool.false Go.IntKind.i64 (2 : Int)) (call3 35 [.agg [.int true .u8 k, .str true n, .str true a, .str true b, .str true c, .str true d, .flt true v, .int true .i64 ph]] (Go.Sx.G.on [true])) = ((Go.Sx.AV.int Bool.false Go.IntKind.i64 (2 : Int)) = (Go.Sx.AV.int Bool.false Go.IntKind.i64 (2 : Int)) ∧ (True ∧ ((!Go.Proofs.Ytgjdeclenlgaeaa.rowOf_5 k) = Bool.true))) := by kernel_rfl
  exact ⟨by rw [e]; exact ⟨rfl, ⟨trivial, c0⟩⟩⟩
noncomputable def chk_0 (k : Int) (n a b c d : List UInt8) (v : Nat) (ph : Int) : Int := (bif Go.Proofs.Ytgjdeclenlgaeaa.rowOf_5 k then (bif Go.Proofs.Ytgjdeclenlgaeaa.name_1 n then (bif Decidable.decide (Go.Proofs.Ytgjdeclenlgaeaa.name_0 n = k) then (bif Go.Proofs.Ytgjdeclenlgaeaa.node_0 a then (bif Go.Proofs.Ytgjdeclenlgaeaa.node_0 b then (bif Go.Proofs.Ytgjdeclenlgaeaa.rowOf_3 k then (bif Go.Proofs.Ytgjdeclenlgaeaa.node_0 c then (bif Go.Proofs.Ytgjdeclenlgaeaa.node_0 d then (bif a == b then ((2 : Int)) else (bif Go.Proofs.Ytgjdeclenlgaeaa.rowOf_4 k then (bif Decidable.decide ((2 : Int) < Go.Sx.kindDef v) then ((5 : Int)) else (bif Go.Proofs.Ytgjdeclenlgaeaa.rowOf_2 k then (bif Go.Sx.fle v (Go.Sx.cn (0 : Nat)) then ((2 : Int)) else ((0 : Int))) else ((0 : Int)))) else (bif Decidable.decide (ph = (0 : Int)) then (bif Decidable.decide ((2 : Int) < Go.Sx.kindDef v) then ((5 : Int)) else (bif Go.Proofs.Ytgjdeclenlgaeaa.rowOf_2 k then (bif Go.Sx.fle v (Go.Sx.cn (0 : Nat)) then ((2 : Int)) else ((0 : Int))) else ((0 : Int)))) else ((2 : Int))))) else ((8 : Int))) else ((8 : Int))) else (bif a == b then ((2 : Int)) else (bif c == [] then (bif d == [] then (bif Go.Proofs.Ytgjdeclenlgaeaa.rowOf_4 k then (bif Decidable.decide ((2 : Int) < Go.Sx.kindDef v) then ((5 : Int)) else (bif Go.Proofs.Ytgjdeclenlgaeaa.rowOf_2 k then (bif Go.Sx.fle v (Go.Sx.cn (0 : Nat)) then ((2 : Int)) else ((0 : Int))) else ((0 : Int)))) else (bif Decidable.decide (ph = (0 : Int)) then (bif Decidable.decide ((2 : Int) < Go.Sx.kindDef v) then ((5 : Int)) else (bif Go.Proofs.Ytgjdeclenlgaeaa.rowOf_2 k then (bif Go.Sx.fle v (Go.Sx.cn (0 : Nat)) then ((2 : Int)) else ((0 : Int))) else ((0 : Int)))) else ((2 : Int)))) else ((2 : Int))) else ((2 : Int))))) else ((8 : Int))) else ((8 : Int))) else ((8 : Int))) else ((8 : Int))) else ((2 : Int)))
noncomputable def chkS : List Sx.AV → Sx.M Sx.AV
  | [.agg [.int s0 .u8 k, .str s1 n, .str s2 a, .str s3 b, .str s4 c, .str s5 d, .flt s6 v, .int s7 .i64 ph]] => Sx.M.ret (Go.Sx.AV.int (Bool.or s0 (Bool.or s1 (Bool.or s2 (Bool.or s3 (Bool.or s4 (Bool.or s5 (Bool.or s6 s7))))))) (Go.IntKind.i64) (chk_0 k n a b c d v ph))
  | args => call3 35 args
theorem chkS_ok : ∀ args v g g', chkS args g = .done v g' → Sx.CallIs Try.prog 35 args v g g' := by
  intro args v g g' h
  unfold chkS at h
  split at h
  · rename_i s0 k s1 n s2 a s3 b s4 c s5 d s6 v s7 ph
    obtain ⟨rfl, rfl⟩ := Sx.ret_done h
    refine Sx.scal call3_ok fun μ cargs ha => ?_
    have ha' : Sx.Reps 0 Sx.MM.none [.agg [.int true .u8 k, .str true n, .str true a, .str true b, .str true c, .str true d, .flt true v, .int true .i64 ph]] cargs.toList := by simpa only [Sx.Reps, Sx.Rep] using ha
    cases t0 : Go.Proofs.Ytgjdeclenlgaeaa.rowOf_5 k with
    | true =>
      cases t1 : Go.Proofs.Ytgjdeclenlgaeaa.name_1 n with
      | true =>
        cases t2 : Decidable.decide (Go.Proofs.Ytgjdeclenlgaeaa.name_0 n = k) with
        | true =>
          cases t3 : Go.Proofs.Ytgjdeclenlgaeaa.node_0 a with
          | true =>
            cases t4 : Go.Proofs.Ytgjdeclenlgaeaa.node_0 b with
            | true =>
              cases t5 : Go.Proofs.Ytgjdeclenlgaeaa.rowOf_3 k with
              | true =>
                cases t6 : Go.Proofs.Ytgjdeclenlgaeaa.node_0 c with
                | true =>
                  cases t7 : Go.Proofs.Ytgjdeclenlgaeaa.node_0 d with
                  | true =>
                    cases t8 : a == b with
                    | true =>
                      exact ⟨_, _, _, ha', chk_r0 k n a b c d v ph (by rw [t0]; rfl) (by rw [t1]; rfl) (by rw [t2]; rfl) (by rw [t3]; rfl) (by rw [t4]; rfl) t5 (by rw [t6]; rfl) (by rw [t7]; rfl) t8, rfl, fun cv hc => by have := hc g.nx μ; have e0 : chk_0 k n a b c d v ph = ((2 : Int)) := (Sx.ct t0).trans ((Sx.ct t1).trans ((Sx.ct t2).trans ((Sx.ct t3).trans ((Sx.ct t4).trans ((Sx.ct t5).trans ((Sx.ct t6).trans ((Sx.ct t7).trans ((Sx.ct t8).trans (rfl))))))))); rw [e0]; simpa only [Sx.Rep, Sx.Reps, Sx.Rep_cmpB] using this⟩
                    | false =>
                      cases t9 : Go.Proofs.Ytgjdeclenlgaeaa.rowOf_4 k with
                      | true =>
                        cases t10 : Decidable.decide ((2 : Int) < Go.Sx.kindDef v) with
                        | true =>
                          exact ⟨_, _, _, ha', chk_r1 k n a b c d v ph (by rw [t0]; rfl) (by rw [t1]; rfl) (by rw [t2]; rfl) (by rw [t3]; rfl) (by rw [t4]; rfl) t5 (by rw [t6]; rfl) (by rw [t7]; rfl) t8 (by rw [t5]; rfl) (by rw [t9]; rfl) t10, rfl, fun cv hc => by have := hc g.nx μ; have e0 : chk_0 k n a b c d v ph = ((5 : Int)) := (Sx.ct t0).trans ((Sx.ct t1).trans ((Sx.ct t2).trans ((Sx.ct t3).trans ((Sx.ct t4).trans ((Sx.ct t5).trans ((Sx.ct t6).trans ((Sx.ct t7).trans ((Sx.cf t8).trans ((Sx.ct t9).trans ((Sx.ct t10).trans (rfl))))))))))); rw [e0]; simpa only [Sx.Rep, Sx.Reps, Sx.Rep_cmpB] using this⟩
                        | false =>
                          cases t11 : Go.Proofs.Ytgjdeclenlgaeaa.rowOf_2 k with
                          | true =>
                            cases t12 : Go.Sx.fle v (Go.Sx.cn (0 : Nat)) with
                            | true =>
                              exact ⟨_, _, _, ha', chk_r2 k n a b c d v ph (by rw [t0]; rfl) (by rw [t1]; rfl) (by rw [t2]; rfl) (by rw [t3]; rfl) (by rw [t4]; rfl) t5 (by rw [t6]; rfl) (by rw [t7]; rfl) t8 (by rw [t5]; rfl) (by rw [t9]; rfl) t10 t11 t12, rfl, fun cv hc => by have := hc g.nx μ; have e0 : chk_0 k n a b c d v ph = ((2 : Int)) := (Sx.ct t0).trans ((Sx.ct t1).trans ((Sx.ct t2).trans ((Sx.ct t3).trans ((Sx.ct t4).trans ((Sx.ct t5).trans ((Sx.ct t6).trans ((Sx.ct t7).trans ((Sx.cf t8).trans ((Sx.ct t9).trans ((Sx.cf t10).trans ((Sx.ct t11).trans ((Sx.ct t12).trans (rfl))))))))))))); rw [e0]; simpa only [Sx.Rep, Sx.Reps, Sx.Rep_cmpB] using this⟩
                            | false =>
                              exact ⟨_, _, _, ha', chk_r3 k n a b c d v ph (by rw [t0]; rfl) (by rw [t1]; rfl) (by rw [t2]; rfl) (by rw [t3]; rfl) (by rw [t4]; rfl) t5 (by rw [t6]; rfl) (by rw [t7]; rfl) t8 (by rw [t5]; rfl) (by rw [t9]; rfl) t10 t11 t12, rfl, fun cv hc => by have := hc g.nx μ; have e0 : chk_0 k n a b c d v ph = ((0 : Int)) := (Sx.ct t0).trans ((Sx.ct t1).trans ((Sx.ct t2).trans ((Sx.ct t3).trans ((Sx.ct t4).trans ((Sx.ct t5).trans ((Sx.ct t6).trans ((Sx.ct t7).trans ((Sx.cf t8).trans ((Sx.ct t9).trans ((Sx.cf t10).trans ((Sx.ct t11).trans ((Sx.cf t12).trans (rfl))))))))))))); rw [e0]; simpa only [Sx.Rep, Sx.Reps, Sx.Rep_cmpB] using this⟩
                          | false =>
                            exact ⟨_, _, _, ha', chk_r4 k n a b c d v ph (by rw [t0]; rfl) (by rw [t1]; rfl) (by rw [t2]; rfl) (by rw [t3]; rfl) (by rw [t4]; rfl) t5 (by rw [t6]; rfl) (by rw [t7]; rfl) t8 (by rw [t5]; rfl) (by rw [t9]; rfl) t10 t11, rfl, fun cv hc => by have := hc g.nx μ; have e0 : chk_0 k n a b c d v ph = ((0 : Int)) := (Sx.ct t0).trans ((Sx.ct t1).trans ((Sx.ct t2).trans ((Sx.ct t3).trans ((Sx.ct t4).trans ((Sx.ct t5).trans ((Sx.ct t6).trans ((Sx.ct t7).trans ((Sx.cf t8).trans ((Sx.ct t9).trans ((Sx.cf t10).trans ((Sx.cf t11).trans (rfl)))))))))))); rw [e0]; simpa only [Sx.Rep, Sx.Reps, Sx.Rep_cmpB] using this⟩
                      | false =>
                        cases t10 : Decidable.decide (ph = (0 : Int)) with
                        | true =>
                          cases t11 : Decidable.decide ((2 : Int) < Go.Sx.kindDef v) with
                          | true =>
                            exact ⟨_, _, _, ha', chk_r5 k n a b c d v ph (by rw [t0]; rfl) (by rw [t1]; rfl) (by rw [t2]; rfl) (by rw [t3]; rfl) (by rw [t4]; rfl) t5 (by rw [t6]; rfl) (by rw [t7]; rfl) t8 (by rw [t5]; rfl) (by rw [t9]; rfl) (by rw [t10]; rfl) t11, rfl, fun cv hc => by have := hc g.nx μ; have e0 : chk_0 k n a b c d v ph = ((5 : Int)) := (Sx.ct t0).trans ((Sx.ct t1).trans ((Sx.ct t2).trans ((Sx.ct t3).trans ((Sx.ct t4).trans ((Sx.ct t5).trans ((Sx.ct t6).trans ((Sx.ct t7).trans ((Sx.cf t8).trans ((Sx.cf t9).trans ((Sx.ct t10).trans ((Sx.ct t11).trans (rfl)))))))))))); rw [e0]; simpa only [Sx.Rep, Sx.Reps, Sx.Rep_cmpB] using this⟩
                          | false =>
                            cases t12 : Go.Proofs.Ytgjdeclenlgaeaa.rowOf_2 k with
                            | true =>
                              cases t13 : Go.Sx.fle v (Go.Sx.cn (0 : Nat)) with
                              | true =>
                                exact ⟨_, _, _, ha', chk_r6 k n a b c d v ph (by rw [t0]; rfl) (by rw [t1]; rfl) (by rw [t2]; rfl) (by rw [t3]; rfl) (by rw [t4]; rfl) t5 (by rw [t6]; rfl) (by rw [t7]; rfl) t8 (by rw [t5]; rfl) (by rw [t9]; rfl) (by rw [t10]; rfl) t11 t12 t13, rfl, fun cv hc => by have := hc g.nx μ; have e0 : chk_0 k n a b c d v ph = ((2 : Int)) := (Sx.ct t0).trans ((Sx.ct t1).trans ((Sx.ct t2).trans ((Sx.ct t3).trans ((Sx.ct t4).trans ((Sx.ct t5).trans ((Sx.ct t6).trans ((Sx.ct t7).trans ((Sx.cf t8).trans ((Sx.cf t9).trans ((Sx.ct t10).trans ((Sx.cf t11).trans ((Sx.ct t12).trans ((Sx.ct t13).trans (rfl)))))))))))))); rw [e0]; simpa only [Sx.Rep, Sx.Reps, Sx.Rep_cmpB] using this⟩
                              | false =>
                                exact ⟨_, _, _, ha', chk_r7 k n a b c d v ph (by rw [t0]; rfl) (by rw [t1]; rfl) (by rw [t2]; rfl) (by rw [t3]; rfl) (by rw [t4]; rfl) t5 (by rw [t6]; rfl) (by rw [t7]; rfl) t8 (by rw [t5]; rfl) (by rw [t9]; rfl) (by rw [t10]; rfl) t11 t12 t13, rfl, fun cv hc => by have := hc g.nx μ; have e0 : chk_0 k n a b c d v ph = ((0 : Int)) := (Sx.ct t0).trans ((Sx.ct t1).trans ((Sx.ct t2).trans ((Sx.ct t3).trans ((Sx.ct t4).trans ((Sx.ct t5).trans ((Sx.ct t6).trans ((Sx.ct t7).trans ((Sx.cf t8).trans ((Sx.cf t9).trans ((Sx.ct t10).trans ((Sx.cf t11).trans ((Sx.ct t12).trans ((Sx.cf t13).trans (rfl)))))))))))))); rw [e0]; simpa only [Sx.Rep, Sx.Reps, Sx.Rep_cmpB] using this⟩
                            | false =>
                              exact ⟨_, _, _, ha', chk_r8 k n a b c d v ph (by rw [t0]; rfl) (by rw [t1]; rfl) (by rw [t2]; rfl) (by rw [t3]; rfl) (by rw [t4]; rfl) t5 (by rw [t6]; rfl) (by rw [t7]; rfl) t8 (by rw [t5]; rfl) (by rw [t9]; rfl) (by rw [t10]; rfl) t11 t12, rfl, fun cv hc => by have := hc g.nx μ; have e0 : chk_0 k n a b c d v ph = ((0 : Int)) := (Sx.ct t0).trans ((Sx.ct t1).trans ((Sx.ct t2).trans ((Sx.ct t3).trans ((Sx.ct t4).trans ((Sx.ct t5).trans ((Sx.ct t6).trans ((Sx.ct t7).trans ((Sx.cf t8).trans ((Sx.cf t9).trans ((Sx.ct t10).trans ((Sx.cf t11).trans ((Sx.cf t12).trans (rfl))))))))))))); rw [e0]; simpa only [Sx.Rep, Sx.Reps, Sx.Rep_cmpB] using this⟩
                        | false =>
                          exact ⟨_, _, _, ha', chk_r9 k n a b c d v ph (by rw [t0]; rfl) (by rw [t1]; rfl) (by rw [t2]; rfl) (by rw [t3]; rfl) (by rw [t4]; rfl) t5 (by rw [t6]; rfl) (by rw [t7]; rfl) t8 (by rw [t5]; rfl) (by rw [t9]; rfl) (by rw [t10]; rfl), rfl, fun cv hc => by have := hc g.nx μ; have e0 : chk_0 k n a b c d v ph = ((2 : Int)) := (Sx.ct t0).trans ((Sx.ct t1).trans ((Sx.ct t2).trans ((Sx.ct t3).trans ((Sx.ct t4).trans ((Sx.ct t5).trans ((Sx.ct t6).trans ((Sx.ct t7).trans ((Sx.cf t8).trans ((Sx.cf t9).trans ((Sx.cf t10).trans (rfl))))))))))); rw [e0]; simpa only [Sx.Rep, Sx.Reps, Sx.Rep_cmpB] using this⟩
                  | false =>
                    exact ⟨_, _, _, ha', chk_r10 k n a b c d v ph (by rw [t0]; rfl) (by rw [t1]; rfl) (by rw [t2]; rfl) (by rw [t3]; rfl) (by rw [t4]; rfl) t5 (by rw [t6]; rfl) (by rw [t7]; rfl), rfl, fun cv hc => by have := hc g.nx μ; have e0 : chk_0 k n a b c d v ph = ((8 : Int)) := (Sx.ct t0).trans ((Sx.ct t1).trans ((Sx.ct t2).trans ((Sx.ct t3).trans ((Sx.ct t4).trans ((Sx.ct t5).trans ((Sx.ct t6).trans ((Sx.cf t7).trans (rfl)))))))); rw [e0]; simpa only [Sx.Rep, Sx.Reps, Sx.Rep_cmpB] using this⟩
                | false =>
                  exact ⟨_, _, _, ha', chk_r11 k n a b c d v ph (by rw [t0]; rfl) (by rw [t1]; rfl) (by rw [t2]; rfl) (by rw [t3]; rfl) (by rw [t4]; rfl) t5 (by rw [t6]; rfl), rfl, fun cv hc => by have := hc g.nx μ; have e0 : chk_0 k n a b c d v ph = ((8 : Int)) := (Sx.ct t0).trans ((Sx.ct t1).trans ((Sx.ct t2).trans ((Sx.ct t3).trans ((Sx.ct t4).trans ((Sx.ct t5).trans ((Sx.cf t6).trans (rfl))))))); rw [e0]; simpa only [Sx.Rep, Sx.Reps, Sx.Rep_cmpB] using this⟩
              | false =>
                cases t6 : a == b with
                | true =>
                  exact ⟨_, _, _, ha', chk_r12 k n a b c d v ph (by rw [t0]; rfl) (by rw [t1]; rfl) (by rw [t2]; rfl) (by rw [t3]; rfl) (by rw [t4]; rfl) t5 t6, rfl, fun cv hc => by have := hc g.nx μ; have e0 : chk_0 k n a b c d v ph = ((2 : Int)) := (Sx.ct t0).trans ((Sx.ct t1).trans ((Sx.ct t2).trans ((Sx.ct t3).trans ((Sx.ct t4).trans ((Sx.cf t5).trans ((Sx.ct t6).trans (rfl))))))); rw [e0]; simpa only [Sx.Rep, Sx.Reps, Sx.Rep_cmpB] using this⟩
                | false =>
                  cases t7 : c == [] with
                  | true =>
                    cases t8 : d == [] with
                    | true =>
                      cases t9 : Go.Proofs.Ytgjdeclenlgaeaa.rowOf_4 k with
                      | true =>
                        cases t10 : Decidable.decide ((2 : Int) < Go.Sx.kindDef v) with
                        | true =>
                          exact ⟨_, _, _, ha', chk_r13 k n a b c d v ph (by rw [t0]; rfl) (by rw [t1]; rfl) (by rw [t2]; rfl) (by rw [t3]; rfl) (by rw [t4]; rfl) t5 t6 (by rw [t5]; rfl) (by rw [t7]; rfl) (by rw [t8]; rfl) (by rw [t9]; rfl) t10, rfl, fun cv hc => by have := hc g.nx μ; have e0 : chk_0 k n a b c d v ph = ((5 : Int)) := (Sx.ct t0).trans ((Sx.ct t1).trans ((Sx.ct t2).trans ((Sx.ct t3).trans ((Sx.ct t4).trans ((Sx.cf t5).trans ((Sx.cf t6).trans ((Sx.ct t7).trans ((Sx.ct t8).trans ((Sx.ct t9).trans ((Sx.ct t10).trans (rfl))))))))))); rw [e0]; simpa only [Sx.Rep, Sx.Reps, Sx.Rep_cmpB] using this⟩
                        | false =>
                          cases t11 : Go.Proofs.Ytgjdeclenlgaeaa.rowOf_2 k with
                          | true =>
                            cases t12 : Go.Sx.fle v (Go.Sx.cn (0 : Nat)) with
                            | true =>
                              exact ⟨_, _, _, ha', chk_r14 k n a b c d v ph (by rw [t0]; rfl) (by rw [t1]; rfl) (by rw [t2]; rfl) (by rw [t3]; rfl) (by rw [t4]; rfl) t5 t6 (by rw [t5]; rfl) (by rw [t7]; rfl) (by rw [t8]; rfl) (by rw [t9]; rfl) t10 t11 t12, rfl, fun cv hc => by have := hc g.nx μ; have e0 : chk_0 k n a b c d v ph = ((2 : Int)) := (Sx.ct t0).trans ((Sx.ct t1).trans ((Sx.ct t2).trans ((Sx.ct t3).trans ((Sx.ct t4).trans ((Sx.cf t5).trans ((Sx.cf t6).trans ((Sx.ct t7).trans ((Sx.ct t8).trans ((Sx.ct t9).trans ((Sx.cf t10).trans ((Sx.ct t11).trans ((Sx.ct t12).trans (rfl))))))))))))); rw [e0]; simpa only [Sx.Rep, Sx.Reps, Sx.Rep_cmpB] using this⟩
                            | false =>
                              exact ⟨_, _, _, ha', chk_r15 k n a b c d v ph (by rw [t0]; rfl) (by rw [t1]; rfl) (by rw [t2]; rfl) (by rw [t3]; rfl) (by rw [t4]; rfl) t5 t6 (by rw [t5]; rfl) (by rw [t7]; rfl) (by rw [t8]; rfl) (by rw [t9]; rfl) t10 t11 t12, rfl, fun cv hc => by have := hc g.nx μ; have e0 : chk_0 k n a b c d v ph = ((0 : Int)) := (Sx.ct t0).trans ((Sx.ct t1).trans ((Sx.ct t2).trans ((Sx.ct t3).trans ((Sx.ct t4).trans ((Sx.cf t5).trans ((Sx.cf t6).trans ((Sx.ct t7).trans ((Sx.ct t8).trans ((Sx.ct t9).trans ((Sx.cf t10).trans ((Sx.ct t11).trans ((Sx.cf t12).trans (rfl))))))))))))); rw [e0]; simpa only [Sx.Rep, Sx.Reps, Sx.Rep_cmpB] using this⟩
                          | false =>
                            exact ⟨_, _, _, ha', chk_r16 k n a b c d v ph (by rw [t0]; rfl) (by rw [t1]; rfl) (by rw [t2]; rfl) (by rw [t3]; rfl) (by rw [t4]; rfl) t5 t6 (by rw [t5]; rfl) (by rw [t7]; rfl) (by rw [t8]; rfl) (by rw [t9]; rfl) t10 t11, rfl, fun cv hc => by have := hc g.nx μ; have e0 : chk_0 k n a b c d v ph = ((0 : Int)) := (Sx.ct t0).trans ((Sx.ct t1).trans ((Sx.ct t2).trans ((Sx.ct t3).trans ((Sx.ct t4).trans ((Sx.cf t5).trans ((Sx.cf t6).trans ((Sx.ct t7).trans ((Sx.ct t8).trans ((Sx.ct t9).trans ((Sx.cf t10).trans ((Sx.cf t11).trans (rfl)))))))))))); rw [e0]; simpa only [Sx.Rep, Sx.Reps, Sx.Rep_cmpB] using this⟩
                      | false =>
                        cases t10 : Decidable.decide (ph = (0 : Int)) with
                        | true =>
                          cases t11 : Decidable.decide ((2 : Int) < Go.Sx.kindDef v) with
                          | true =>
                            exact ⟨_, _, _, ha', chk_r17 k n a b c d v ph (by rw [t0]; rfl) (by rw [t1]; rfl) (by rw [t2]; rfl) (by rw [t3]; rfl) (by rw [t4]; rfl) t5 t6 (by rw [t5]; rfl) (by rw [t7]; rfl) (by rw [t8]; rfl) (by rw [t9]; rfl) (by rw [t10]; rfl) t11, rfl, fun cv hc => by have := hc g.nx μ; have e0 : chk_0 k n a b c d v ph = ((5 : Int)) := (Sx.ct t0).trans ((Sx.ct t1).trans ((Sx.ct t2).trans ((Sx.ct t3).trans ((Sx.ct t4).trans ((Sx.cf t5).trans ((Sx.cf t6).trans ((Sx.ct t7).trans ((Sx.ct t8).trans ((Sx.cf t9).trans ((Sx.ct t10).trans ((Sx.ct t11).trans (rfl)))))))))))); rw [e0]; simpa only [Sx.Rep, Sx.Reps, Sx.Rep_cmpB] using this⟩
                          | false =>
                            cases t12 : Go.Proofs.Ytgjdeclenlgaeaa.rowOf_2 k with
                            | true =>
                              cases t13 : Go.Sx.fle v (Go.Sx.cn (0 : Nat)) with
                              | true =>
                                exact ⟨_, _, _, ha', chk_r18 k n a b c d v ph (by rw [t0]; rfl) (by rw [t1]; rfl) (by rw [t2]; rfl) (by rw [t3]; rfl) (by rw [t4]; rfl) t5 t6 (by rw [t5]; rfl) (by rw [t7]; rfl) (by rw [t8]; rfl) (by rw [t9]; rfl) (by rw [t10]; rfl) t11 t12 t13, rfl, fun cv hc => by have := hc g.nx μ; have e0 : chk_0 k n a b c d v ph = ((2 : Int)) := (Sx.ct t0).trans ((Sx.ct t1).trans ((Sx.ct t2).trans ((Sx.ct t3).trans ((Sx.ct t4).trans ((Sx.cf t5).trans ((Sx.cf t6).trans ((Sx.ct t7).trans ((Sx.ct t8).trans ((Sx.cf t9).trans ((Sx.ct t10).trans ((Sx.cf t11).trans ((Sx.ct t12).trans ((Sx.ct t13).trans (rfl)))))))))))))); rw [e0]; simpa only [Sx.Rep, Sx.Reps, Sx.Rep_cmpB] using this⟩
                              | false =>
                                exact ⟨_, _, _, ha', chk_r19 k n a b c d v ph (by rw [t0]; rfl) (by rw [t1]; rfl) (by rw [t2]; rfl) (by rw [t3]; rfl) (by rw [t4]; rfl) t5 t6 (by rw [t5]; rfl) (by rw [t7]; rfl) (by rw [t8]; rfl) (by rw [t9]; rfl) (by rw [t10]; rfl) t11 t12 t13, rfl, fun cv hc => by have := hc g.nx μ; have e0 : chk_0 k n a b c d v ph = ((0 : Int)) := (Sx.ct t0).trans ((Sx.ct t1).trans ((Sx.ct t2).trans ((Sx.ct t3).trans ((Sx.ct t4).trans ((Sx.cf t5).trans ((Sx.cf t6).trans ((Sx.ct t7).trans ((Sx.ct t8).trans ((Sx.cf t9).trans ((Sx.ct t10).trans ((Sx.cf t11).trans ((Sx.ct t12).trans ((Sx.cf t13).trans (rfl)))))))))))))); rw [e0]; simpa only [Sx.Rep, Sx.Reps, Sx.Rep_cmpB] using this⟩
                            | false =>
                              exact ⟨_, _, _, ha', chk_r20 k n a b c d v ph (by rw [t0]; rfl) (by rw [t1]; rfl) (by rw [t2]; rfl) (by rw [t3]; rfl) (by rw [t4]; rfl) t5 t6 (by rw [t5]; rfl) (by rw [t7]; rfl) (by rw [t8]; rfl) (by rw [t9]; rfl) (by rw [t10]; rfl) t11 t12, rfl, fun cv hc => by have := hc g.nx μ; have e0 : chk_0 k n a b c d v ph = ((0 : Int)) := (Sx.ct t0).trans ((Sx.ct t1).trans ((Sx.ct t2).trans ((Sx.ct t3).trans ((Sx.ct t4).trans ((Sx.cf t5).trans ((Sx.cf t6).trans ((Sx.ct t7).trans ((Sx.ct t8).trans ((Sx.cf t9).trans ((Sx.ct t10).trans ((Sx.cf t11).trans ((Sx.cf t12).trans (rfl))))))))))))); rw [e0]; simpa only [Sx.Rep, Sx.Reps, Sx.Rep_cmpB] using this⟩
                        | false =>
                          exact ⟨_, _, _, ha', chk_r21 k n a b c d v ph (by rw [t0]; rfl) (by rw [t1]; rfl) (by rw [t2]; rfl) (by rw [t3]; rfl) (by rw [t4]; rfl) t5 t6 (by rw [t5]; rfl) (by rw [t7]; rfl) (by rw [t8]; rfl) (by rw [t9]; rfl) (by rw [t10]; rfl), rfl, fun cv hc => by have := hc g.nx μ; have e0 : chk_0 k n a b c d v ph = ((2 : Int)) := (Sx.ct t0).trans ((Sx.ct t1).trans ((Sx.ct t2).trans ((Sx.ct t3).trans ((Sx.ct t4).trans ((Sx.cf t5).trans ((Sx.cf t6).trans ((Sx.ct t7).trans ((Sx.ct t8).trans ((Sx.cf t9).trans ((Sx.cf t10).trans (rfl))))))))))); rw [e0]; simpa only [Sx.Rep, Sx.Reps, Sx.Rep_cmpB] using this⟩
                    | false =>
                      exact ⟨_, _, _, ha', chk_r22 k n a b c d v ph (by rw [t0]; rfl) (by rw [t1]; rfl) (by rw [t2]; rfl) (by rw [t3]; rfl) (by rw [t4]; rfl) t5 t6 (by rw [t5]; rfl) (by rw [t7]; rfl) (by rw [t8]; rfl), rfl, fun cv hc => by have := hc g.nx μ; have e0 : chk_0 k n a b c d v ph = ((2 : Int)) := (Sx.ct t0).trans ((Sx.ct t1).trans ((Sx.ct t2).trans ((Sx.ct t3).trans ((Sx.ct t4).trans ((Sx.cf t5).trans ((Sx.cf t6).trans ((Sx.ct t7).trans ((Sx.cf t8).trans (rfl))))))))); rw [e0]; simpa only [Sx.Rep, Sx.Reps, Sx.Rep_cmpB] using this⟩
                  | false =>
                    exact ⟨_, _, _, ha', chk_r23 k n a b c d v ph (by rw [t0]; rfl) (by rw [t1]; rfl) (by rw [t2]; rfl) (by rw [t3]; rfl) (by rw [t4]; rfl) t5 t6 (by rw [t5]; rfl) (by rw [t7]; rfl), rfl, fun cv hc => by have := hc g.nx μ; have e0 : chk_0 k n a b c d v ph = ((2 : Int)) := (Sx.ct t0).trans ((Sx.ct t1).trans ((Sx.ct t2).trans ((Sx.ct t3).trans ((Sx.ct t4).trans ((Sx.cf t5).trans ((Sx.cf t6).trans ((Sx.cf t7).trans (rfl)))))))); rw [e0]; simpa only [Sx.Rep, Sx.Reps, Sx.Rep_cmpB] using this⟩
            | false =>
              exact ⟨_, _, _, ha', chk_r24 k n a b c d v ph (by rw [t0]; rfl) (by rw [t1]; rfl) (by rw [t2]; rfl) (by rw [t3]; rfl) (by rw [t4]; rfl), rfl, fun cv hc => by have := hc g.nx μ; have e0 : chk_0 k n a b c d v ph = ((8 : Int)) := (Sx.ct t0).trans ((Sx.ct t1).trans ((Sx.ct t2).trans ((Sx.ct t3).trans ((Sx.cf t4).trans (rfl))))); rw [e0]; simpa only [Sx.Rep, Sx.Reps, Sx.Rep_cmpB] using this⟩
          | false =>
            exact ⟨_, _, _, ha', chk_r25 k n a b c d v ph (by rw [t0]; rfl) (by rw [t1]; rfl) (by rw [t2]; rfl) (by rw [t3]; rfl), rfl, fun cv hc => by have := hc g.nx μ; have e0 : chk_0 k n a b c d v ph = ((8 : Int)) := (Sx.ct t0).trans ((Sx.ct t1).trans ((Sx.ct t2).trans ((Sx.cf t3).trans (rfl)))); rw [e0]; simpa only [Sx.Rep, Sx.Reps, Sx.Rep_cmpB] using this⟩
        | false =>
          exact ⟨_, _, _, ha', chk_r26 k n a b c d v ph (by rw [t0]; rfl) (by rw [t1]; rfl) (by rw [t2]; rfl), rfl, fun cv hc => by have := hc g.nx μ; have e0 : chk_0 k n a b c d v ph = ((8 : Int)) := (Sx.ct t0).trans ((Sx.ct t1).trans ((Sx.cf t2).trans (rfl))); rw [e0]; simpa only [Sx.Rep, Sx.Reps, Sx.Rep_cmpB] using this⟩
      | false =>
        exact ⟨_, _, _, ha', chk_r27 k n a b c d v ph (by rw [t0]; rfl) (by rw [t1]; rfl), rfl, fun cv hc => by have := hc g.nx μ; have e0 : chk_0 k n a b c d v ph = ((8 : Int)) := (Sx.ct t0).trans ((Sx.cf t1).trans (rfl)); rw [e0]; simpa only [Sx.Rep, Sx.Reps, Sx.Rep_cmpB] using this⟩
    | false =>
      exact ⟨_, _, _, ha', chk_r28 k n a b c d v ph (by rw [t0]; rfl), rfl, fun cv hc => by have := hc g.nx μ; have e0 : chk_0 k n a b c d v ph = ((2 : Int)) := (Sx.cf t0).trans (rfl); rw [e0]; simpa only [Sx.Rep, Sx.Reps, Sx.Rep_cmpB] using this⟩
  · exact call3_ok _ _ _ _ _ h
theorem chkS_tch : ∀ args, Sx.Tch (chkS args) := by
  intro args
  unfold chkS
  split
  · exact Sx.Tch.ret _
  · exact call3_tch _ _
noncomputable def gamE : Sx.Known := fun f => bif Nat.beq f 71 then some Sx.ofBits else (bif Nat.beq f 74 then some Sx.toBits else (bif Nat.beq f 72 then some smallS else (bif Nat.beq f 81 then some bytesS else (bif Nat.beq f 61 then some kindS else (bif Nat.beq f 78 then some rkindS else (bif Nat.beq f 58 then some rowOfS else (bif Nat.beq f 75 then some rrowS else (bif Nat.beq f 73 then some ofS else (bif Nat.beq f 82 then some rofS else (bif Nat.beq f 59 then some nameS else (bif Nat.beq f 76 then some rnameS else (bif Nat.beq f 60 then some nodeS else (bif Nat.beq f 77 then some rnodeS else (bif Nat.beq f 35 then some chkS else (none)))))))))))))))
theorem gamE_ok : Sx.KnownOk Try.prog gamE := by
  intro f s h
  unfold gamE at h
  cases h1 : Nat.beq f 71 with
  | true =>
    rw [h1] at h
    cases h
    cases Nat.eq_of_beq_eq_true h1
    exact (Sx.ofBits_is Try.prog).callIs Try.func71 (by kernel_rfl) (by kernel_rfl) (by kernel_rfl) (by kernel_rfl)
  | false =>
    rw [h1, cond_false] at h
    clear h1
    cases h1 : Nat.beq f 74 with
    | true =>
      rw [h1] at h
      cases h
      cases Nat.eq_of_beq_eq_true h1
      exact (Sx.toBits_is Try.prog).callIs Try.func74 (by kernel_rfl) (by kernel_rfl) (by kernel_rfl) (by kernel_rfl)
    | false =>
      rw [h1, cond_false] at h
      clear h1
      cases h1 : Nat.beq f 72 with
      | true =>
        rw [h1] at h
        cases h
        cases Nat.eq_of_beq_eq_true h1
        exact smallS_ok
      | false =>
        rw [h1, cond_false] at h
        clear h1
        cases h1 : Nat.beq f 81 with
        | true =>
          rw [h1] at h
          cases h
          cases Nat.eq_of_beq_eq_true h1
          exact bytesS_ok
        | false =>
          rw [h1, cond_false] at h
          clear h1
          cases h1 : Nat.beq f 61 with
          | true =>
            rw [h1] at h
            cases h
            cases Nat.eq_of_beq_eq_true h1
            exact kindS_ok
          | false =>
            rw [h1, cond_false] at h
            clear h1
            cases h1 : Nat.beq f 78 with
            | true =>
              rw [h1] at h
              cases h
              cases Nat.eq_of_beq_eq_true h1
              exact rkindS_ok
            | false =>
              rw [h1, cond_false] at h
              clear h1
              cases h1 : Nat.beq f 58 with
              | true =>
                rw [h1] at h
                cases h
                cases Nat.eq_of_beq_eq_true h1
                exact rowOfS_ok
              | false =>
                rw [h1, cond_false] at h
                clear h1
                cases h1 : Nat.beq f 75 with
                | true =>
                  rw [h1] at h
                  cases h
                  cases Nat.eq_of_beq_eq_true h1
                  exact rrowS_ok
                | false =>
                  rw [h1, cond_false] at h
                  clear h1
                  cases h1 : Nat.beq f 73 with
                  | true =>
                    rw [h1] at h
                    cases h
                    cases Nat.eq_of_beq_eq_true h1
                    exact ofS_ok
                  | false =>
                    rw [h1, cond_false] at h
                    clear h1
                    cases h1 : Nat.beq f 82 with
                    | true =>
                      rw [h1] at h
                      cases h
                      cases Nat.eq_of_beq_eq_true h1
                      exact rofS_ok
                    | false =>
                      rw [h1, cond_false] at h
                      clear h1
                      cases h1 : Nat.beq f 59 with
                      | true =>
                        rw [h1] at h
                        cases h
                        cases Nat.eq_of_beq_eq_true h1
                        exact nameS_ok
                      | false =>
                        rw [h1, cond_false] at h
                        clear h1
                        cases h1 : Nat.beq f 76 with
                        | true =>
                          rw [h1] at h
                          cases h
                          cases Nat.eq_of_beq_eq_true h1
                          exact rnameS_ok
                        | false =>
                          rw [h1, cond_false] at h
                          clear h1
                          cases h1 : Nat.beq f 60 with
                          | true =>
                            rw [h1] at h
                            cases h
                            cases Nat.eq_of_beq_eq_true h1
                            exact nodeS_ok
                          | false =>
                            rw [h1, cond_false] at h
                            clear h1
                            cases h1 : Nat.beq f 77 with
                            | true =>
                              rw [h1] at h
                              cases h
                              cases Nat.eq_of_beq_eq_true h1
                              exact rnodeS_ok
                            | false =>
                              rw [h1, cond_false] at h
                              clear h1
                              cases h1 : Nat.beq f 35 with
                              | true =>
                                rw [h1] at h
                                cases h
                                cases Nat.eq_of_beq_eq_true h1
                                exact chkS_ok
                              | false =>
                                rw [h1, cond_false] at h
                                clear h1
                                cases h
theorem gamE_tch : Sx.KnownT gamE := by
  intro f s h
  unfold gamE at h
  cases h1 : Nat.beq f 71 with
  | true => rw [h1] at h; cases h; exact Sx.Tch.ofBits
  | false =>
    rw [h1, cond_false] at h
    clear h1
    cases h1 : Nat.beq f 74 with
    | true => rw [h1] at h; cases h; exact Sx.Tch.toBits
    | false =>
      rw [h1, cond_false] at h
      clear h1
      cases h1 : Nat.beq f 72 with
      | true => rw [h1] at h; cases h; exact smallS_tch
      | false =>
        rw [h1, cond_false] at h
        clear h1
        cases h1 : Nat.beq f 81 with
        | true => rw [h1] at h; cases h; exact bytesS_tch
        | false =>
          rw [h1, cond_false] at h
          clear h1
          cases h1 : Nat.beq f 61 with
          | true => rw [h1] at h; cases h; exact kindS_tch
          | false =>
            rw [h1, cond_false] at h
            clear h1
            cases h1 : Nat.beq f 78 with
            | true => rw [h1] at h; cases h; exact rkindS_tch
            | false =>
              rw [h1, cond_false] at h
              clear h1
              cases h1 : Nat.beq f 58 with
              | true => rw [h1] at h; cases h; exact rowOfS_tch
              | false =>
                rw [h1, cond_false] at h
                clear h1
                cases h1 : Nat.beq f 75 with
                | true => rw [h1] at h; cases h; exact rrowS_tch
                | false =>
                  rw [h1, cond_false] at h
                  clear h1
                  cases h1 : Nat.beq f 73 with
                  | true => rw [h1] at h; cases h; exact ofS_tch
                  | false =>
                    rw [h1, cond_false] at h
                    clear h1
                    cases h1 : Nat.beq f 82 with
                    | true => rw [h1] at h; cases h; exact rofS_tch
                    | false =>
                      rw [h1, cond_false] at h
                      clear h1
                      cases h1 : Nat.beq f 59 with
                      | true => rw [h1] at h; cases h; exact nameS_tch
                      | false =>
                        rw [h1, cond_false] at h
                        clear h1
                        cases h1 : Nat.beq f 76 with
                        | true => rw [h1] at h; cases h; exact rnameS_tch
                        | false =>
                          rw [h1, cond_false] at h
                          clear h1
                          cases h1 : Nat.beq f 60 with
                          | true => rw [h1] at h; cases h; exact nodeS_tch
                          | false =>
                            rw [h1, cond_false] at h
                            clear h1
                            cases h1 : Nat.beq f 77 with
                            | true => rw [h1] at h; cases h; exact rnodeS_tch
                            | false =>
                              rw [h1, cond_false] at h
                              clear h1
                              cases h1 : Nat.beq f 35 with
                              | true => rw [h1] at h; cases h; exact chkS_tch
                              | false =>
                                rw [h1, cond_false] at h
                                clear h1
                                cases h
noncomputable def callE : Sx.Calls' := Sx.runN Try.prog gamE (Sx.regionC Try.prog) 1000 50
theorem callE_ok : Sx.CallOk Try.prog callE := Sx.engineC gamE_ok gamE_tch (by kernel_rfl) (by kernel_rfl) 1000 50
theorem callE_tch : Sx.CallT callE := Sx.runA_tch gamE_tch (fun _ _ _ h => by cases h) (fun call hc n l fr => Sx.regionC_tch hc n l fr) 50
theorem callE_reg (n : Nat) : Sx.RegionOk Try.prog (Sx.regionC Try.prog callE n) n := Sx.runN_regionC gamE_ok gamE_tch (by kernel_rfl) (by kernel_rfl) 1000 50 n
noncomputable abbrev piececallE (f : Func) (c : Code) (fr : Sx.Fr) (H : Sx.T Sx.ABk) (K : Nat) (path : List Bool) : Sx.Res (Sx.Ex × Sx.Fr) :=
  Sx.codeA Try.prog callE (Sx.regionC Try.prog callE f.ntmps) Sx.noLoops f.ntmps 1000 c fr ⟨H, K, [], path, True⟩
theorem awake_run : Sx.pureP (.bool true) (callE 9 [] (Sx.G.on [])) = (Sx.AV.bool true = Sx.AV.bool true ∧ True) := by kernel_rfl
noncomputable def awakeS : List Sx.AV → Sx.M Sx.AV
  | [] => Sx.M.ret (.bool true)
  | args => callE 9 args
theorem awakeS_ok : ∀ args v g g', awakeS args g = .done v g' → Sx.CallIs Try.prog 9 args v g g' := by
  intro args v g g' h
  unfold awakeS at h
  split at h
  · obtain ⟨rfl, rfl⟩ := Sx.ret_done h
    refine Sx.scal callE_ok fun μ cargs ha => ?_
    have ha' : Sx.Reps 0 Sx.MM.none [] cargs.toList := by simpa only [Sx.Reps] using ha
    exact ⟨[], [], _, ha', ⟨by rw [awake_run]; exact ⟨rfl, trivial⟩⟩, rfl, fun c hc => by have := hc g.nx μ; simpa only [Sx.Rep] using this⟩
  · exact callE_ok _ _ _ _ _ h
theorem awakeS_tch : ∀ args, Sx.Tch (awakeS args) := by
  intro args
  unfold awakeS
  split
  · exact Sx.Tch.ret _
  · exact callE_tch _ _
noncomputable def gamF : Sx.Known := fun f => bif Nat.beq f 71 then some Sx.ofBits else (bif Nat.beq f 74 then some Sx.toBits else (bif Nat.beq f 72 then some smallS else (bif Nat.beq f 81 then some bytesS else (bif Nat.beq f 61 then some kindS else (bif Nat.beq f 78 then some rkindS else (bif Nat.beq f 58 then some rowOfS else (bif Nat.beq f 75 then some rrowS else (bif Nat.beq f 73 then some ofS else (bif Nat.beq f 82 then some rofS else (bif Nat.beq f 59 then some nameS else (bif Nat.beq f 76 then some rnameS else (bif Nat.beq f 60 then some nodeS else (bif Nat.beq f 77 then some rnodeS else (bif Nat.beq f 35 then some chkS else (bif Nat.beq f 9 then some awakeS else (none))))))))))))))))
theorem gamF_ok : Sx.KnownOk Try.prog gamF := by
  intro f s h
  unfold gamF at h
  cases h1 : Nat.beq f 71 with
  | true =>
    rw [h1] at h
    cases h
    cases Nat.eq_of_beq_eq_true h1
    exact (Sx.ofBits_is Try.prog).callIs Try.func71 (by kernel_rfl) (by kernel_rfl) (by kernel_rfl) (by kernel_rfl)
  | false =>
    rw [h1, cond_false] at h
    clear h1
    cases h1 : Nat.beq f 74 with
    | true =>
      rw [h1] at h
      cases h
      cases Nat.eq_of_beq_eq_true h1
      exact (Sx.toBits_is Try.prog).callIs Try.func74 (by kernel_rfl) (by kernel_rfl) (by kernel_rfl) (by kernel_rfl)
    | false =>
      rw [h1, cond_false] at h
      clear h1
      cases h1 : Nat.beq f 72 with
      | true =>
        rw [h1] at h
        cases h
        cases Nat.eq_of_beq_eq_true h1
        exact smallS_ok
      | false =>
        rw [h1, cond_false] at h
        clear h1
        cases h1 : Nat.beq f 81 with
        | true =>
          rw [h1] at h
          cases h
          cases Nat.eq_of_beq_eq_true h1
          exact bytesS_ok
        | false =>
          rw [h1, cond_false] at h
          clear h1
          cases h1 : Nat.beq f 61 with
          | true =>
            rw [h1] at h
            cases h
            cases Nat.eq_of_beq_eq_true h1
            exact kindS_ok
          | false =>
            rw [h1, cond_false] at h
            clear h1
            cases h1 : Nat.beq f 78 with
            | true =>
              rw [h1] at h
              cases h
              cases Nat.eq_of_beq_eq_true h1
              exact rkindS_ok
            | false =>
              rw [h1, cond_false] at h
              clear h1
              cases h1 : Nat.beq f 58 with
              | true =>
                rw [h1] at h
                cases h
                cases Nat.eq_of_beq_eq_true h1
                exact rowOfS_ok
              | false =>
                rw [h1, cond_false] at h
                clear h1
                cases h1 : Nat.beq f 75 with
                | true =>
                  rw [h1] at h
                  cases h
                  cases Nat.eq_of_beq_eq_true h1
                  exact rrowS_ok
                | false =>
                  rw [h1, cond_false] at h
                  clear h1
                  cases h1 : Nat.beq f 73 with
                  | true =>
                    rw [h1] at h
                    cases h
                    cases Nat.eq_of_beq_eq_true h1
                    exact ofS_ok
                  | false =>
                    rw [h1, cond_false] at h
                    clear h1
                    cases h1 : Nat.beq f 82 with
                    | true =>
                      rw [h1] at h
                      cases h
                      cases Nat.eq_of_beq_eq_true h1
                      exact rofS_ok
                    | false =>
                      rw [h1, cond_false] at h
                      clear h1
                      cases h1 : Nat.beq f 59 with
                      | true =>
                        rw [h1] at h
                        cases h
                        cases Nat.eq_of_beq_eq_true h1
                        exact nameS_ok
                      | false =>
                        rw [h1, cond_false] at h
                        clear h1
                        cases h1 : Nat.beq f 76 with
                        | true =>
                          rw [h1] at h
                          cases h
                          cases Nat.eq_of_beq_eq_true h1
                          exact rnameS_ok
                        | false =>
                          rw [h1, cond_false] at h
                          clear h1
                          cases h1 : Nat.beq f 60 with
                          | true =>
                            rw [h1] at h
                            cases h
                            cases Nat.eq_of_beq_eq_true h1
                            exact nodeS_ok
                          | false =>
                            rw [h1, cond_false] at h
                            clear h1
                            cases h1 : Nat.beq f 77 with
                            | true =>
                              rw [h1] at h
                              cases h
                              cases Nat.eq_of_beq_eq_true h1
                              exact rnodeS_ok
                            | false =>
                              rw [h1, cond_false] at h
                              clear h1
                              cases h1 : Nat.beq f 35 with
                              | true =>
                                rw [h1] at h
                                cases h
                                cases Nat.eq_of_beq_eq_true h1
                                exact chkS_ok
                              | false =>
                                rw [h1, cond_false] at h
                                clear h1
                                cases h1 : Nat.beq f 9 with
                                | true =>
                                  rw [h1] at h
                                  cases h
                                  cases Nat.eq_of_beq_eq_true h1
                                  exact awakeS_ok
                                | false =>
                                  rw [h1, cond_false] at h
                                  clear h1
                                  cases h
theorem gamF_tch : Sx.KnownT gamF := by
  intro f s h
  unfold gamF at h
  cases h1 : Nat.beq f 71 with
  | true => rw [h1] at h; cases h; exact Sx.Tch.ofBits
  | false =>
    rw [h1, cond_false] at h
    clear h1
    cases h1 : Nat.beq f 74 with
    | true => rw [h1] at h; cases h; exact Sx.Tch.toBits
    | false =>
      rw [h1, cond_false] at h
      clear h1
      cases h1 : Nat.beq f 72 with
      | true => rw [h1] at h; cases h; exact smallS_tch
      | false =>
        rw [h1, cond_false] at h
        clear h1
        cases h1 : Nat.beq f 81 with
        | true => rw [h1] at h; cases h; exact bytesS_tch
        | false =>
          rw [h1, cond_false] at h
          clear h1
          cases h1 : Nat.beq f 61 with
          | true => rw [h1] at h; cases h; exact kindS_tch
          | false =>
            rw [h1, cond_false] at h
            clear h1
            cases h1 : Nat.beq f 78 with
            | true => rw [h1] at h; cases h; exact rkindS_tch
            | false =>
              rw [h1, cond_false] at h
              clear h1
              cases h1 : Nat.beq f 58 with
              | true => rw [h1] at h; cases h; exact rowOfS_tch
              | false =>
                rw [h1, cond_false] at h
                clear h1
                cases h1 : Nat.beq f 75 with
                | true => rw [h1] at h; cases h; exact rrowS_tch
                | false =>
                  rw [h1, cond_false] at h
                  clear h1
                  cases h1 : Nat.beq f 73 with
                  | true => rw [h1] at h; cases h; exact ofS_tch
                  | false =>
                    rw [h1, cond_false] at h
                    clear h1
                    cases h1 : Nat.beq f 82 with
                    | true => rw [h1] at h; cases h; exact rofS_tch
                    | false =>
                      rw [h1, cond_false] at h
                      clear h1
                      cases h1 : Nat.beq f 59 with
                      | true => rw [h1] at h; cases h; exact nameS_tch
                      | false =>
                        rw [h1, cond_false] at h
                        clear h1
                        cases h1 : Nat.beq f 76 with
                        | true => rw [h1] at h; cases h; exact rnameS_tch
                        | false =>
                          rw [h1, cond_false] at h
                          clear h1
                          cases h1 : Nat.beq f 60 with
                          | true => rw [h1] at h; cases h; exact nodeS_tch
                          | false =>
                            rw [h1, cond_false] at h
                            clear h1
                            cases h1 : Nat.beq f 77 with
                            | true => rw [h1] at h; cases h; exact rnodeS_tch
                            | false =>
                              rw [h1, cond_false] at h
                              clear h1
                              cases h1 : Nat.beq f 35 with
                              | true => rw [h1] at h; cases h; exact chkS_tch
                              | false =>
                                rw [h1, cond_false] at h
                                clear h1
                                cases h1 : Nat.beq f 9 with
                                | true => rw [h1] at h; cases h; exact awakeS_tch
                                | false =>
                                  rw [h1, cond_false] at h
                                  clear h1
                                  cases h
noncomputable def callF : Sx.Calls' := Sx.runN Try.prog gamF (Sx.regionC Try.prog) 1000 50
theorem callF_ok : Sx.CallOk Try.prog callF := Sx.engineC gamF_ok gamF_tch (by kernel_rfl) (by kernel_rfl) 1000 50
theorem callF_tch : Sx.CallT callF := Sx.runA_tch gamF_tch (fun _ _ _ h => by cases h) (fun call hc n l fr => Sx.regionC_tch hc n l fr) 50
theorem callF_reg (n : Nat) : Sx.RegionOk Try.prog (Sx.regionC Try.prog callF n) n := Sx.runN_regionC gamF_ok gamF_tch (by kernel_rfl) (by kernel_rfl) 1000 50 n
theorem law_run : Sx.isTrueP (callF 4 [] Sx.G.start) = True := by kernel_rfl
theorem law_walk (w : World) : Calls Try.prog 4 #[] w fun e w' => e = .returned (.bool true) ∧ Below w.heap.size w w' :=
  Sx.closed callF_ok Try.func4 rfl (by kernel_rfl) law_run w


set_option maxRecDepth 100000 in
theorem law_lifted (os : Os) (started : os.Started) (H : Type) (enc : TypeId × Value → H) :
    ReturnsInHanded {} Try.checked os 4 .any (Rows.graphKnownSpec.pre6 enc Try.prog Try.f4 Rows.graphKnownRow.domain false) (Rows.graphKnownSpec.post enc Try.prog Try.f4 false true false false) := by
  refine returnsInHanded_of_change_sized (C := Try.checked) own started (by kernel_rfl) Try.func4
    (ChangeSpec.witness6 (enc := enc) (C := Try.checked) false ⟨#[], #[], []⟩ 8 (by kernel_rfl) (by kernel_rfl) (by kernel_rfl) (by kernel_rfl)) ?_
  intro W base args ds gs before hval0 hW hcnd hsz0 _
  have hval : ∀ (j : Nat) t v, Try.f4.params[j]? = some t → args[j]? = some v → Value.okWide Try.prog W .any base t v := hval0
  have hsz1 : (DataW.weightsEach Try.prog (Try.f4.params.toList ++ Rows.graphKnownSpec.plain.varTypes Try.prog) (ds ++ gs)).all (· ≤ reachBytes) = true := hsz0
  have hsz : (DataW.weightsEach Try.prog [] (ds ++ gs)).all (· ≤ reachBytes) = true := by
    have e : Try.f4.params.toList ++ Rows.graphKnownSpec.plain.varTypes Try.prog = [] := by rw [Try.params4]; kernel_rfl
    rw [← e]; exact hsz1
  have hW' := hW
  obtain ⟨p, q, hA0, hV, rfl, hfz, hnd⟩ := hW
  have hA : DataW.TrodAll enc Try.prog W 0 (fun _ => true) true Try.f4.params.toList args.toList ds p := hA0
  rw [Try.params4] at hA hval
  obtain ⟨hargs, rfl, rfl⟩ := trodAll_nil hA
  obtain rfl : args = #[] := by cases args; simp_all
  obtain ⟨rfl, rfl⟩ := trodVars_none hV
  rw [List.append_nil] at hsz
  clear hA0 hval0 hsz0 hsz1
  refine (law_walk  W).mono fun e W' ⟨he, bel⟩ => ?_
  subst he
  exact ⟨_, rfl, _, _, _, [], _, [], hW', trodAll_mk1 (shut_bool Try.underlying4 _), trodAll_mk0, rfl, bel.frame _, fun h => by cases h⟩
theorem law_over : Rows.graphKnownRow.holds Try.pinned (OpenSpec.ofChange Rows.graphKnownSpec) :=
  OpenClaim.holds_of_wide 4 Try.f4 rfl rfl rfl rfl rfl rfl rfl ⟨rfl, rfl, rfl, rfl, rfl⟩ rfl rfl rfl rfl rfl (by kernel_rfl) Try.func4 (by kernel_rfl)
    (of_decide_eq_true (by kernel_rfl)) (by unfold Func.isWrapper; first | (rw [if_pos (by decide +kernel)]; kernel_rfl) | (rw [if_neg (by decide +kernel)]; exact ⟨rfl, rfl⟩))
    (fun os started H enc _ => law_lifted os started H enc)
/-- THE STATEMENT -/
theorem graphKnown_proved : Rows.GraphKnownSaid := law_over
#print axioms graphKnown_proved
end Go.Proofs.Ytgjdeclenlgaeaa
