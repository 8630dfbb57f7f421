/- PowerNone: returns true for every input; no conditions. By the engine's runs, checked by the kernel. -/
import Derived.Test.YtmmogbldndklnaaRows
import Derived.ProofKit
import Derived.OpenShut
import Derived.KernelRfl
import Derived.SizedLaws
import Derived.Carry
import Derived.ChangeMaps5
import Derived.Test.YtmmogbldndklnaaSyX
namespace Go.Proofs.Ytmmogbldndklnaa
open Go.ChangeShapes Go.WideShapes Go.ChangeAt Go.RowKit
set_option linter.unusedVariables false
set_option linter.unusedSimpArgs false

theorem own : ownKnob Try.prog.godebug = none := by kernel_rfl
theorem laidOut : laidOutB Try.prog = true := by kernel_rfl
noncomputable def gam0 : Sx.Known := Sx.kc 72 Sx.toBits (Sx.kc 37 Sx.ofBits (Sx.kn))
theorem gam0_ok : Sx.KnownOk Try.prog gam0 := Sx.kc_ok ((Sx.toBits_is Try.prog).callIs Try.func72 (by kernel_rfl) (by kernel_rfl) (by kernel_rfl) (by kernel_rfl)) (Sx.kc_ok ((Sx.ofBits_is Try.prog).callIs Try.func37 (by kernel_rfl) (by kernel_rfl) (by kernel_rfl) (by kernel_rfl)) (Sx.kn_ok))
theorem gam0_tch : Sx.KnownT gam0 := Sx.kc_tch Sx.Tch.toBits (Sx.kc_tch Sx.Tch.ofBits (Sx.kn_tch))
noncomputable def call0 : Sx.Calls' := Sx.runN Try.prog gam0 (Sx.regionC Try.prog) 1000 50
theorem call0_ok : Sx.CallOk Try.prog call0 := Sx.engineC gam0_ok gam0_tch (by kernel_rfl) (by kernel_rfl) 1000 50
theorem call0_tch : Sx.CallT call0 := Sx.runA_tch gam0_tch (fun _ _ _ h => by cases h) (fun call hc n l fr => Sx.regionC_tch hc n l fr) 50
theorem call0_reg (n : Nat) : Sx.RegionOk Try.prog (Sx.regionC Try.prog call0 n) n := Sx.runN_regionC gam0_ok gam0_tch (by kernel_rfl) (by kernel_rfl) 1000 50 n
noncomputable abbrev piececall0 (f : Func) (c : Code) (fr : Sx.Fr) (H : Sx.T Sx.ABk) (K : Nat) (path : List Bool) : Sx.Res (Sx.Ex × Sx.Fr) :=
 Sx.codeA Try.prog call0 (Sx.regionC Try.prog call0 f.ntmps) Sx.noLoops f.ntmps 1000 c fr ⟨H, K, [], path, True⟩

theorem nuA_r0 (len : Nat) (re im : Nat → Int) : Sx.PieceN 1 (Sx.Ex.normal) [(0, Sx.AV.slc true false (Sx.AA.mk false (0 : Nat) (0 : Nat) (0 : Nat)) len)] [(0, Sx.ABk.cells false (2 : Nat) len (Sx.Cont.fn fun j => [Sx.AV.int true IntKind.u64 (re j), Sx.AV.int true IntKind.u64 (im j)]))] (piececall0 Try.f38 (Sx.nav [0] (Sx.bodyOf Try.f38)) (Sx.frameOf [Sx.slcV 0 len] 0 .e) (Sx.hpL [(0, .cells false 2 len (.fn fun j => [.int true .u64 (re j), .int true .u64 (im j)]))]) 1 []) := Sx.eqn (q := True) (by kernel_rfl) trivial
theorem nuA (B : Nat) (hB : B ≤ 1) (len : Nat) (re im : Nat → Int) : Sx.GoesB Try.prog (Sx.nav [0] (Sx.bodyOf Try.f38)) Try.f38.ntmps B 1 1 (Sx.frameOf [Sx.slcV 0 len] 0 .e) (Sx.hpL [(0, .cells false 2 len (.fn fun j => [.int true .u64 (re j), .int true .u64 (im j)]))]) fun e fr' H' => (e = Sx.Ex.normal ∧ fr' = Sx.frL [(0, Sx.AV.slc true false (Sx.AA.mk false (0 : Nat) (0 : Nat) (0 : Nat)) len)] ∧ H' = Sx.hpL [(0, Sx.ABk.cells false (2 : Nat) len (Sx.Cont.fn fun j => [Sx.AV.int true IntKind.u64 (re j), Sx.AV.int true IntKind.u64 (im j)]))]) := by
 exact (Sx.GoesB.runN call0_ok (call0_reg _) (Sx.LoopsIn.none _ _ _) (nuA_r0 len re im) hB).mono fun e fr' H' h => h
theorem nuC_r0 (len : Nat) (re im : Nat → Int) : Sx.PieceN 1 (Sx.Ex.normal) [(0, Sx.AV.slc true false (Sx.AA.mk false (0 : Nat) (0 : Nat) (0 : Nat)) len), (3, Sx.AV.nils)] [(0, Sx.ABk.cells false (2 : Nat) len (Sx.Cont.fn fun j => [Sx.AV.int true IntKind.u64 (re j), Sx.AV.int true IntKind.u64 (im j)]))] (piececall0 Try.f38 (Sx.nav [1,0] (Sx.bodyOf Try.f38)) (Sx.frL [(0, Sx.slcV 0 len)]) (Sx.hpL [(0, .cells false 2 len (.fn fun j => [.int true .u64 (re j), .int true .u64 (im j)]))]) 1 []) := Sx.eqn (q := True) (by kernel_rfl) trivial
theorem nuC (B : Nat) (hB : B ≤ 1) (len : Nat) (re im : Nat → Int) : Sx.GoesB Try.prog (Sx.nav [1,0] (Sx.bodyOf Try.f38)) Try.f38.ntmps B 1 1 (Sx.frL [(0, Sx.slcV 0 len)]) (Sx.hpL [(0, .cells false 2 len (.fn fun j => [.int true .u64 (re j), .int true .u64 (im j)]))]) fun e fr' H' => (e = Sx.Ex.normal ∧ fr' = Sx.frL [(0, Sx.AV.slc true false (Sx.AA.mk false (0 : Nat) (0 : Nat) (0 : Nat)) len), (3, Sx.AV.nils)] ∧ H' = Sx.hpL [(0, Sx.ABk.cells false (2 : Nat) len (Sx.Cont.fn fun j => [Sx.AV.int true IntKind.u64 (re j), Sx.AV.int true IntKind.u64 (im j)]))]) := by
 exact (Sx.GoesB.runN call0_ok (call0_reg _) (Sx.LoopsIn.none _ _ _) (nuC_r0 len re im) hB).mono fun e fr' H' h => h
theorem nuD_r0 (len : Nat) (re im : Nat → Int) : Sx.PieceN 1 (Sx.Ex.normal) [(0, Sx.AV.slc true false (Sx.AA.mk false (0 : Nat) (0 : Nat) (0 : Nat)) len), (3, Sx.AV.nils), (4, Sx.AV.int false IntKind.i64 (0 : Int))] [(0, Sx.ABk.cells false (2 : Nat) len (Sx.Cont.fn fun j => [Sx.AV.int true IntKind.u64 (re j), Sx.AV.int true IntKind.u64 (im j)]))] (piececall0 Try.f38 (Sx.nav [1,1,0,0] (Sx.bodyOf Try.f38)) (Sx.frL [(0, Sx.slcV 0 len), (3, .nils)]) (Sx.hpL [(0, .cells false 2 len (.fn fun j => [.int true .u64 (re j), .int true .u64 (im j)]))]) 1 []) := Sx.eqn (q := True) (by kernel_rfl) trivial
theorem nuD (B : Nat) (hB : B ≤ 1) (len : Nat) (re im : Nat → Int) : Sx.GoesB Try.prog (Sx.nav [1,1,0,0] (Sx.bodyOf Try.f38)) Try.f38.ntmps B 1 1 (Sx.frL [(0, Sx.slcV 0 len), (3, .nils)]) (Sx.hpL [(0, .cells false 2 len (.fn fun j => [.int true .u64 (re j), .int true .u64 (im j)]))]) fun e fr' H' => (e = Sx.Ex.normal ∧ fr' = Sx.frL [(0, Sx.AV.slc true false (Sx.AA.mk false (0 : Nat) (0 : Nat) (0 : Nat)) len), (3, Sx.AV.nils), (4, Sx.AV.int false IntKind.i64 (0 : Int))] ∧ H' = Sx.hpL [(0, Sx.ABk.cells false (2 : Nat) len (Sx.Cont.fn fun j => [Sx.AV.int true IntKind.u64 (re j), Sx.AV.int true IntKind.u64 (im j)]))]) := by
 exact (Sx.GoesB.runN call0_ok (call0_reg _) (Sx.LoopsIn.none _ _ _) (nuD_r0 len re im) hB).mono fun e fr' H' h => h
theorem nuB_r0 (len i : Nat) (re im : Nat → Int) (c0 : decide ((↑i : Int) < (↑len : Int)) = true) (c1 : (0 : Int) ≤ (↑i : Int)) (c2 : (↑i : Int) < (↑len : Int)) (c3 : (0 : Nat) + i < len) (c4 : (2 : Nat) ≤ (2 : Nat)) (c5 : (0 : Int) ≤ re ((0 : Nat) + i)) (c6 : re ((0 : Nat) + i) < (18446744073709551616 : Int)) (c7 : (0 : Int) ≤ im ((0 : Nat) + i)) (c8 : im ((0 : Nat) + i) < (18446744073709551616 : Int)) (c9 : i ≤ i) (c10 : (i + (1 : Nat)) * (16 : Nat) ≤ (140737488355328 : Nat)) (c11 : i + (1 : Nat) ≤ (9223372036854775807 : Nat)) (c12 : (-9223372036854775808 : Int) ≤ (↑i : Int) + (1 : Int)) (c13 : (↑i : Int) + (1 : Int) ≤ (9223372036854775807 : Int)) : Sx.PieceN 5 (Sx.Ex.normal) [(0, Sx.AV.slc true false (Sx.AA.mk false (0 : Nat) (0 : Nat) (0 : Nat)) len), (3, Sx.AV.slc true true (Sx.AA.mk false (4 : Nat) (0 : Nat) (0 : Nat)) (i + (1 : Nat))), (4, Sx.AV.int true IntKind.i64 ((↑i : Int) + (1 : Int)))] [(0, Sx.ABk.cells false (2 : Nat) len (Sx.Cont.fn fun j => [Sx.AV.int true IntKind.u64 (re j), Sx.AV.int true IntKind.u64 (im j)])), (4, Sx.ABk.cells true (1 : Nat) (i + (1 : Nat)) (Sx.Cont.fn fun j => bif decide (j < i) then [Sx.AV.cpx true (Sx.cn (Int.toNat (re j))) (Sx.cn (Int.toNat (im j)))] else [Sx.AV.cpx true (Sx.cn (Int.toNat (re ((0 : Nat) + i)))) (Sx.cn (Int.toNat (im ((0 : Nat) + i))))]))] (piececall0 Try.f38 (Sx.nav [1,1,0,1,0,0] (Sx.bodyOf Try.f38)) (Sx.frL [(0, Sx.slcV 0 len), (3, .slc true true ⟨false, 1, 0, 0⟩ i), (4, .int true .i64 i)]) (Sx.hpL [(0, .cells false 2 len (.fn fun j => [.int true .u64 (re j), .int true .u64 (im j)])), (1, .cells true 1 i (.fn fun j => [.cpx true (Sx.cn (re j).toNat) (Sx.cn (im j).toNat)]))]) 2 [true]) := Sx.eqn (q := ((((((((True ∧ (decide ((↑i : Int) < (↑len : Int)) = true)) ∧ (((0 : Int) ≤ (↑i : Int)) ∧ ((↑i : Int) < (↑len : Int)))) ∧ ((0 : Nat) + i < len)) ∧ ((2 : Nat) ≤ (2 : Nat))) ∧ (((0 : Int) ≤ re ((0 : Nat) + i)) ∧ (re ((0 : Nat) + i) < (18446744073709551616 : Int)))) ∧ (((0 : Int) ≤ im ((0 : Nat) + i)) ∧ (im ((0 : Nat) + i) < (18446744073709551616 : Int)))) ∧ ((i ≤ i) ∧ (((i + (1 : Nat)) * (16 : Nat) ≤ (140737488355328 : Nat)) ∧ (i + (1 : Nat) ≤ (9223372036854775807 : Nat))))) ∧ (((-9223372036854775808 : Int) ≤ (↑i : Int) + (1 : Int)) ∧ ((↑i : Int) + (1 : Int) ≤ (9223372036854775807 : Int))))) (by kernel_rfl) ⟨⟨⟨⟨⟨⟨⟨⟨trivial, c0⟩, ⟨c1, c2⟩⟩, c3⟩, c4⟩, ⟨c5, c6⟩⟩, ⟨c7, c8⟩⟩, ⟨c9, ⟨c10, c11⟩⟩⟩, ⟨c12, c13⟩⟩
theorem nuB_r1 (len i : Nat) (re im : Nat → Int) (c0 : decide ((↑i : Int) < (↑len : Int)) = false) : Sx.PieceN 5 (Sx.Ex.exit (0 : Nat)) [(0, Sx.AV.slc true false (Sx.AA.mk false (0 : Nat) (0 : Nat) (0 : Nat)) len), (3, Sx.AV.slc true true (Sx.AA.mk false (1 : Nat) (0 : Nat) (0 : Nat)) i), (4, Sx.AV.int true IntKind.i64 (↑i : Int))] [(0, Sx.ABk.cells false (2 : Nat) len (Sx.Cont.fn fun j => [Sx.AV.int true IntKind.u64 (re j), Sx.AV.int true IntKind.u64 (im j)])), (1, Sx.ABk.cells true (1 : Nat) i (Sx.Cont.fn fun j => [Sx.AV.cpx true (Sx.cn (Int.toNat (re j))) (Sx.cn (Int.toNat (im j)))]))] (piececall0 Try.f38 (Sx.nav [1,1,0,1,0,0] (Sx.bodyOf Try.f38)) (Sx.frL [(0, Sx.slcV 0 len), (3, .slc true true ⟨false, 1, 0, 0⟩ i), (4, .int true .i64 i)]) (Sx.hpL [(0, .cells false 2 len (.fn fun j => [.int true .u64 (re j), .int true .u64 (im j)])), (1, .cells true 1 i (.fn fun j => [.cpx true (Sx.cn (re j).toNat) (Sx.cn (im j).toNat)]))]) 2 [false]) := Sx.eqn (q := (True ∧ (decide ((↑i : Int) < (↑len : Int)) = false))) (by kernel_rfl) ⟨trivial, c0⟩
theorem nuB (B : Nat) (hB : B ≤ 2) (len i : Nat) (re im : Nat → Int) (x0 : ((decide ((↑i : Int) < (↑len : Int))) = true → ((0 : Int) ≤ re ((0 : Nat) + i)))) (x1 : ((decide ((↑i : Int) < (↑len : Int))) = true → (re ((0 : Nat) + i) < (18446744073709551616 : Int)))) (x2 : ((decide ((↑i : Int) < (↑len : Int))) = true → ((0 : Int) ≤ im ((0 : Nat) + i)))) (x3 : ((decide ((↑i : Int) < (↑len : Int))) = true → (im ((0 : Nat) + i) < (18446744073709551616 : Int)))) (x4 : ((decide ((↑i : Int) < (↑len : Int))) = true → ((i + (1 : Nat)) * (16 : Nat) ≤ (140737488355328 : Nat)))) (x5 : ((decide ((↑i : Int) < (↑len : Int))) = true → (i + (1 : Nat) ≤ (9223372036854775807 : Nat)))) (x6 : ((decide ((↑i : Int) < (↑len : Int))) = true → ((↑i : Int) + (1 : Int) ≤ (9223372036854775807 : Int)))) : Sx.GoesB Try.prog (Sx.nav [1,1,0,1,0,0] (Sx.bodyOf Try.f38)) Try.f38.ntmps B 2 5 (Sx.frL [(0, Sx.slcV 0 len), (3, .slc true true ⟨false, 1, 0, 0⟩ i), (4, .int true .i64 i)]) (Sx.hpL [(0, .cells false 2 len (.fn fun j => [.int true .u64 (re j), .int true .u64 (im j)])), (1, .cells true 1 i (.fn fun j => [.cpx true (Sx.cn (re j).toNat) (Sx.cn (im j).toNat)]))]) fun e fr' H' => (cond (decide ((↑i : Int) < (↑len : Int))) (e = Sx.Ex.normal ∧ fr' = Sx.frL [(0, Sx.AV.slc true false (Sx.AA.mk false (0 : Nat) (0 : Nat) (0 : Nat)) len), (3, Sx.AV.slc true true (Sx.AA.mk false (4 : Nat) (0 : Nat) (0 : Nat)) (i + (1 : Nat))), (4, Sx.AV.int true IntKind.i64 ((↑i : Int) + (1 : Int)))] ∧ H' = Sx.hpL [(0, Sx.ABk.cells false (2 : Nat) len (Sx.Cont.fn fun j => [Sx.AV.int true IntKind.u64 (re j), Sx.AV.int true IntKind.u64 (im j)])), (4, Sx.ABk.cells true (1 : Nat) (i + (1 : Nat)) (Sx.Cont.fn fun j => bif decide (j < i) then [Sx.AV.cpx true (Sx.cn (Int.toNat (re j))) (Sx.cn (Int.toNat (im j)))] else [Sx.AV.cpx true (Sx.cn (Int.toNat (re ((0 : Nat) + i)))) (Sx.cn (Int.toNat (im ((0 : Nat) + i))))]))]) (e = Sx.Ex.exit (0 : Nat) ∧ fr' = Sx.frL [(0, Sx.AV.slc true false (Sx.AA.mk false (0 : Nat) (0 : Nat) (0 : Nat)) len), (3, Sx.AV.slc true true (Sx.AA.mk false (1 : Nat) (0 : Nat) (0 : Nat)) i), (4, Sx.AV.int true IntKind.i64 (↑i : Int))] ∧ H' = Sx.hpL [(0, Sx.ABk.cells false (2 : Nat) len (Sx.Cont.fn fun j => [Sx.AV.int true IntKind.u64 (re j), Sx.AV.int true IntKind.u64 (im j)])), (1, Sx.ABk.cells true (1 : Nat) i (Sx.Cont.fn fun j => [Sx.AV.cpx true (Sx.cn (Int.toNat (re j))) (Sx.cn (Int.toNat (im j)))]))])) := by
 cases t0 : decide ((↑i : Int) < (↑len : Int)) with
 | true =>
  exact (Sx.GoesB.runN call0_ok (call0_reg _) (Sx.LoopsIn.none _ _ _) (nuB_r0 len i re im t0 (by first | decide | ((try simp only [decide_eq_true_eq, decide_eq_false_iff_not] at t0); (try simp only [List.length_take, List.length_drop]); omega)) (by first | decide | ((try simp only [decide_eq_true_eq, decide_eq_false_iff_not] at t0); (try simp only [List.length_take, List.length_drop]); omega)) (by first | decide | ((try simp only [decide_eq_true_eq, decide_eq_false_iff_not] at t0); (try simp only [List.length_take, List.length_drop]); omega)) (by first | decide | ((try simp only [decide_eq_true_eq, decide_eq_false_iff_not] at t0); (try simp only [List.length_take, List.length_drop]); omega)) (x0 t0) (x1 t0) (x2 t0) (x3 t0) (by first | decide | ((try simp only [decide_eq_true_eq, decide_eq_false_iff_not] at t0); (try simp only [List.length_take, List.length_drop]); omega)) (x4 t0) (x5 t0) (by first | decide | ((try simp only [decide_eq_true_eq, decide_eq_false_iff_not] at t0); (try simp only [List.length_take, List.length_drop]); omega)) (x6 t0)) hB).mono fun e fr' H' h => by simp only [t0, cond_true, cond_false]; exact h
 | false =>
  exact (Sx.GoesB.runN call0_ok (call0_reg _) (Sx.LoopsIn.none _ _ _) (nuB_r1 len i re im t0) hB).mono fun e fr' H' h => by simp only [t0, cond_true, cond_false]; exact h
theorem nuZ_r0 (len : Nat) (q : Nat → List Sx.AV) : Sx.PieceN 2 (Sx.Ex.ret) [(2, Sx.AV.slc true true (Sx.AA.mk false (1 : Nat) (0 : Nat) (0 : Nat)) len)] [(1, Sx.ABk.cells true (1 : Nat) len (Sx.Cont.fn q))] (piececall0 Try.f38 (Sx.nav [1,1,1] (Sx.bodyOf Try.f38)) (Sx.frL [(3, .slc true true ⟨false, 1, 0, 0⟩ len)]) (Sx.hpL [(1, .cells true 1 len (.fn q))]) 2 []) := Sx.eqn (q := True) (by kernel_rfl) trivial
theorem nuZ (B : Nat) (hB : B ≤ 2) (len : Nat) (q : Nat → List Sx.AV) : Sx.GoesB Try.prog (Sx.nav [1,1,1] (Sx.bodyOf Try.f38)) Try.f38.ntmps B 2 2 (Sx.frL [(3, .slc true true ⟨false, 1, 0, 0⟩ len)]) (Sx.hpL [(1, .cells true 1 len (.fn q))]) fun e fr' H' => (e = Sx.Ex.ret ∧ fr' = Sx.frL [(2, Sx.AV.slc true true (Sx.AA.mk false (1 : Nat) (0 : Nat) (0 : Nat)) len)] ∧ H' = Sx.hpL [(1, Sx.ABk.cells true (1 : Nat) len (Sx.Cont.fn q))]) := by
 exact (Sx.GoesB.runN call0_ok (call0_reg _) (Sx.LoopsIn.none _ _ _) (nuZ_r0 len q) hB).mono fun e fr' H' h => h
def nuI (len : Nat) (re im : Nat → Int) (k : Nat) (fr : Sx.Fr) (H : Sx.T Sx.ABk) : Prop :=
 ∃ i : Nat, k = len - i ∧ i ≤ len ∧ fr = Sx.frL [(0, Sx.slcV 0 len), (3, .slc true true ⟨false, 1, 0, 0⟩ i), (4, .int true .i64 i)] ∧ H = Sx.hpL [(0, .cells false 2 len (.fn fun j => [.int true .u64 (re j), .int true .u64 (im j)])), (1, .cells true 1 i (.fn fun j => [.cpx true (Sx.cn (re j).toNat) (Sx.cn (im j).toNat)]))]
def nuP (len : Nat) (re im : Nat → Int) : Sx.Po := fun e fr H => e = .exit 0 ∧ fr = Sx.frL [(3, .slc true true ⟨false, 1, 0, 0⟩ len)] ∧ H = Sx.hpL [(1, .cells true 1 len (.fn fun j => [.cpx true (Sx.cn (re j).toNat) (Sx.cn (im j).toNat)]))]
theorem nu_body (len : Nat) (re im : Nat → Int) (hr : ∀ j, j < len → 0 ≤ re j ∧ re j < 18446744073709551616 ∧ 0 ≤ im j ∧ im j < 18446744073709551616) (hl : len * 16 ≤ 140737488355328) (k : Nat) (fr : Sx.Fr) (H : Sx.T Sx.ABk) (hI : nuI len re im k fr H) :
  Sx.GoesB Try.prog (Sx.nav [1,1,0,1,0,0] (Sx.bodyOf Try.f38)) Try.f38.ntmps 1 2 2 fr H fun e fr' H' => match e with
   | .normal => ∃ k', k' < k ∧ nuI len re im k' fr' H'
   | e => nuP len re im e fr' H' := by
 obtain ⟨i, rfl, hi, rfl, rfl⟩ := hI
 have hx : decide ((i : Int) < (len : Int)) = true → i < len := fun t => by have := of_decide_eq_true t; omega
 refine (nuB 1 (by omega) len i re im (fun t => by simpa using (hr i (hx t)).1) (fun t => by simpa using (hr i (hx t)).2.1) (fun t => by simpa using (hr i (hx t)).2.2.1) (fun t => by simpa using (hr i (hx t)).2.2.2) (fun t => by have := hx t; omega) (fun t => by have := hx t; omega) (fun t => by have := hx t; omega)).renL fun e fr' H' h => ?_
 refine Sx.cond_elim h (fun t h => ?_) (fun t h => ?_)
 ·have hlt := hx t
  obtain ⟨rfl, rfl, rfl⟩ := h
  refine ⟨fun g => if g = 1 then 4 else g, [(0, Sx.slcV 0 len), (3, .slc true true ⟨false, 1, 0, 0⟩ (i + 1)), (4, .int true .i64 ((i + 1 : Nat) : Int))], [(0, .cells false 2 len (.fn fun j => [.int true .u64 (re j), .int true .u64 (im j)])), (1, .cells true 1 (i + 1) (.fn fun j => [.cpx true (Sx.cn (re j).toNat) (Sx.cn (im j).toNat)]))], fun g hg => if_neg (by omega),
   ⟨⟨_, rfl, Sx.AV.ge.refl _, rfl⟩, ⟨_, rfl, Sx.AV.ge.refl _, rfl⟩, ⟨_, rfl, Sx.AV.ge.int' _ _ _ (by simp), rfl⟩, trivial⟩,
   ⟨⟨_, rfl, Sx.SameC.refl _, Sx.bare_int2 _ _ _, Nat.zero_lt_succ _⟩, ⟨_, rfl, ⟨rfl, rfl, rfl, fun j hj => ?_⟩, Sx.bare_cpx _ _ _ _, Nat.lt_succ_self _⟩, trivial⟩, fun a b ha hb hab => by dsimp only at hab; split at hab <;> split at hab <;> omega, len - (i + 1), by omega, i + 1, rfl, by omega, rfl, rfl⟩
  simp only [Sx.Cont.row]
  by_cases hji : j < i
  ·simp [hji]
  ·have e : j = i := by omega
   subst e
   simp
 ·have e : i = len := by have := of_decide_eq_false t; omega
  subst e
  obtain ⟨rfl, rfl, rfl⟩ := h
  exact ⟨id, [(3, .slc true true ⟨false, 1, 0, 0⟩ i)], [(1, .cells true 1 i (.fn fun j => [.cpx true (Sx.cn (re j).toNat) (Sx.cn (im j).toNat)]))], fun _ _ => rfl, ⟨⟨_, rfl, Sx.AV.ge.refl _, rfl⟩, trivial⟩, ⟨⟨_, rfl, Sx.SameC.refl _, Sx.bare_cpx _ _ _ _, Nat.lt_succ_self _⟩, trivial⟩, fun _ _ _ _ h => h, rfl, rfl, rfl⟩
theorem nu_is : (Sx.bodyOf Try.f38) = .seq (Sx.nav [0] (Sx.bodyOf Try.f38)) (.seq (Sx.nav [1,0] (Sx.bodyOf Try.f38)) (.seq (.seq (Sx.nav [1,1,0,0] (Sx.bodyOf Try.f38)) (.block 0 (.loop (Sx.nav [1,1,0,1,0,0] (Sx.bodyOf Try.f38))))) (Sx.nav [1,1,1] (Sx.bodyOf Try.f38)))) := by kernel_rfl
theorem nu_goes (len : Nat) (re im : Nat → Int) (hr : ∀ j, j < len → 0 ≤ re j ∧ re j < 18446744073709551616 ∧ 0 ≤ im j ∧ im j < 18446744073709551616) (hl : len * 16 ≤ 140737488355328) :
  Sx.GoesB Try.prog (Sx.bodyOf Try.f38) Try.f38.ntmps 1 1 2 (Sx.frameOf [Sx.slcV 0 len] 0 .e) (Sx.hpL [(0, .cells false 2 len (.fn fun j => [.int true .u64 (re j), .int true .u64 (im j)]))]) fun e fr' H' => e = .ret ∧ fr' = Sx.frL [(2, .slc true true ⟨false, 1, 0, 0⟩ len)] ∧ H' = Sx.hpL [(1, .cells true 1 len (.fn fun j => [.cpx true (Sx.cn (re j).toNat) (Sx.cn (im j).toNat)]))] := by
 rw [nu_is]
 refine Sx.GoesB.seq (K1 := 1) (by omega) ((nuA 1 (by omega) len re im).mono fun e fr' H' ⟨e1, e2, e3⟩ => ?_)
 subst e1 e2 e3
 refine Sx.GoesB.seq (K1 := 1) (by omega) ((nuC 1 (by omega) len re im).mono fun e fr' H' ⟨e1, e2, e3⟩ => ?_)
 subst e1 e2 e3
 refine Sx.GoesB.seq (K1 := 2) (by omega) (Sx.GoesB.seq (K1 := 1) (by omega) ((nuD 1 (by omega) len re im).mono fun e fr' H' ⟨e1, e2, e3⟩ => ?_))
 subst e1 e2 e3
 refine Sx.GoesB.phantom 3 1 (fun j => [.cpx true (Sx.cn (re j).toNat) (Sx.cn (im j).toNat)]) rfl (by omega) (by omega) ?_
 refine Sx.GoesB.weakL (fl := [(0, Sx.slcV 0 len), (3, .slc true true ⟨false, 1, 0, 0⟩ 0), (4, .int true .i64 (0 : Nat))]) (bl := [(0, .cells false 2 len (.fn fun j => [.int true .u64 (re j), .int true .u64 (im j)])), (1, .cells true 1 0 (.fn fun j => [.cpx true (Sx.cn (re j).toNat) (Sx.cn (im j).toNat)]))]) ⟨⟨_, rfl, Sx.AV.ge.refl _⟩, ⟨_, rfl, Sx.AV.ge.refl _⟩, ⟨_, rfl, Sx.AV.ge.int _ _ _ _⟩, trivial⟩ ⟨⟨_, rfl, Sx.SameC.refl _⟩, ⟨_, rfl, Sx.SameC.refl _⟩, trivial⟩ ?_
 refine Sx.GoesB.block ((Sx.GoesB.loop (nuI len re im) (Post := nuP len re im) (nu_body len re im hr hl) _ _ _ ⟨0, rfl, by omega, rfl, rfl⟩).mono fun e fr' H' ⟨e1, e2, e3⟩ => ?_)
 subst e1 e2 e3
 simp only [if_true]
 exact nuZ 1 (by omega) len _
def numP (len : Nat) (rows : Nat → List Sx.AV) : Prop := len * 16 ≤ 140737488355328 ∧ ∀ j, j < len → Sx.ZRow (rows j)
noncomputable def numbersS : List Sx.AV → Sx.M Sx.AV
 | [x] => (Sx.rd 2 x numP).andThen fun y => Sx.newS 1 y.1 fun j => [.cpx true (Sx.cn (Sx.zre (y.2 j)).toNat) (Sx.cn (Sx.zim (y.2 j)).toNat)]
 | _ => Sx.M.no
theorem numbersS_ok : ∀ args v g g', numbersS args g = .done v g' → Sx.CallIs Try.prog 38 args v g g' := by
 intro args v g g' h
 unfold numbersS at h
 split at h
 ·rename_i x
  obtain ⟨⟨len, rows⟩, g1, a1, h1⟩ := Sx.done_of h
  obtain ⟨q, kq, hq⟩ := Sx.rd_done a1 (by omega)
  obtain ⟨rfl, e1, e2, e3⟩ := Sx.newS_done h1
  dsimp only at e1 e2 hq
  rw [kq.1, kq.2.1] at e1
  rw [kq.2.1] at e2
  rw [kq.2.1]
  refine Sx.reads (c := (Sx.bodyOf Try.f38)) Try.func38 (by kernel_rfl) (by kernel_rfl) kq [⟨x, 2, len, rows⟩] (fun hp v hv => ?_) (argsC := [Sx.slcV 0 len]) (fun hp N μ cs hcs => ?_) (nms := [1]) (bs := [.cells true 1 len (.fn fun j => [.cpx true (Sx.cn (Sx.zre (rows j)).toNat) (Sx.cn (Sx.zim (rows j)).toNat)])]) (K' := 2) (fun hp => ?_) ?_ ?_ e1 e2 (fun h => by rw [← e3]; exact h)
  ·rcases List.mem_cons.1 hv with rfl | hv
   ·exact (hq hp).1
   ·cases hv
  ·simp only [Sx.Reps] at hcs
   obtain ⟨c, r, rfl, hc, rfl⟩ := hcs
   simp only [Sx.Reps]
   exact ⟨c, [], rfl, Sx.vw_val (l := [⟨x, 2, len, rows⟩]) (i := 0) (hq hp).1 rfl hc, rfl⟩
  ·obtain ⟨_, hl, hz⟩ := hq hp
   refine Sx.GoesB.weakGL (fl := [(0, Sx.slcV 0 len)]) (bl := [(0, .cells false 2 len (.fn fun j => [.int true .u64 (Sx.zre (rows j)), .int true .u64 (Sx.zim (rows j))]))]) ⟨⟨_, rfl, Sx.AV.ge.refl _⟩, trivial⟩ ⟨⟨_, rfl, rfl, rfl, rfl, fun j hj => (hz j hj).ge⟩, trivial⟩ ?_
   refine (nu_goes len (fun j => Sx.zre (rows j)) (fun j => Sx.zim (rows j)) (fun j hj => (hz j hj).2) hl).mono fun e fr' H' ⟨e1, e2, e3⟩ => ?_
   subst e1 e2 e3
   exact ⟨.inl rfl, _, _, Sx.res1 (t := 2) (by kernel_rfl) rfl, trivial, Sx.ge_new _ _ _ _, Sx.news1 rfl (Sx.SameC.refl _) rfl (Sx.bare_cpx _ _ _ _)⟩
  ·simp [Sx.AV.low]
  ·show g.nx ≤ g.nx; exact Nat.le_refl _
 ·exact (Sx.no_done h).elim
theorem numbersS_tch : ∀ args, Sx.Tch (numbersS args) := by
 intro args
 unfold numbersS
 split
 ·exact (Sx.Tch.rd _ _ _).andThen fun _ => Sx.Tch.newS _ _ _
 ·exact Sx.Tch.no
theorem awake_run : Sx.pureP (.bool true) (call0 7 [] (Sx.G.on [])) = (Sx.AV.bool true = Sx.AV.bool true ∧ True) := by kernel_rfl
noncomputable def awakeS : List Sx.AV → Sx.M Sx.AV
 | [] => Sx.M.ret (.bool true)
 | args => call0 7 args
theorem awakeS_ok : ∀ args v g g', awakeS args g = .done v g' → Sx.CallIs Try.prog 7 args v g g' := by
 intro args v g g' h
 unfold awakeS at h
 split at h
 ·obtain ⟨rfl, rfl⟩ := Sx.ret_done h
  refine Sx.scal call0_ok fun μ cargs ha => ?_
  have ha' : Sx.Reps 0 Sx.MM.none [] cargs.toList := by simpa only [Sx.Reps] using ha
  exact ⟨[], [], _, ha', ⟨by rw [awake_run]; exact ⟨rfl, trivial⟩⟩, rfl, fun c hc => by have := hc g.nx μ; simpa only [Sx.Rep] using this⟩
 ·exact call0_ok _ _ _ _ _ h
theorem awakeS_tch : ∀ args, Sx.Tch (awakeS args) := by
 intro args
 unfold awakeS
 split
 ·exact Sx.Tch.ret _
 ·exact call0_tch _ _
noncomputable def gam1 : Sx.Known := Sx.kc 72 Sx.toBits (Sx.kc 37 Sx.ofBits (Sx.kc 38 numbersS (Sx.kc 7 awakeS (Sx.kn))))
theorem gam1_ok : Sx.KnownOk Try.prog gam1 := Sx.kc_ok ((Sx.toBits_is Try.prog).callIs Try.func72 (by kernel_rfl) (by kernel_rfl) (by kernel_rfl) (by kernel_rfl)) (Sx.kc_ok ((Sx.ofBits_is Try.prog).callIs Try.func37 (by kernel_rfl) (by kernel_rfl) (by kernel_rfl) (by kernel_rfl)) (Sx.kc_ok numbersS_ok (Sx.kc_ok awakeS_ok (Sx.kn_ok))))
theorem gam1_tch : Sx.KnownT gam1 := Sx.kc_tch Sx.Tch.toBits (Sx.kc_tch Sx.Tch.ofBits (Sx.kc_tch numbersS_tch (Sx.kc_tch awakeS_tch (Sx.kn_tch))))
noncomputable def call1 : Sx.Calls' := Sx.runN Try.prog gam1 (Sx.regionC Try.prog) 1000 50
theorem call1_ok : Sx.CallOk Try.prog call1 := Sx.engineC gam1_ok gam1_tch (by kernel_rfl) (by kernel_rfl) 1000 50
theorem call1_tch : Sx.CallT call1 := Sx.runA_tch gam1_tch (fun _ _ _ h => by cases h) (fun call hc n l fr => Sx.regionC_tch hc n l fr) 50
theorem call1_reg (n : Nat) : Sx.RegionOk Try.prog (Sx.regionC Try.prog call1 n) n := Sx.runN_regionC gam1_ok gam1_tch (by kernel_rfl) (by kernel_rfl) 1000 50 n

theorem lawY_r0 (n m : Nat) (w : Int) (l : List UInt8) (re im rf ig : Nat → Int) (c0 : (0 : Int) ≤ w) (c1 : w < (18446744073709551616 : Int)) (c2 : (0 : Nat) + n ≤ n) (c3 : n * (16 : Nat) ≤ (140737488355328 : Nat)) (c4 : ∀ (j : Nat), j < n → Sx.ZRow [Sx.AV.int true IntKind.u64 (re ((0 : Nat) + j)), Sx.AV.int true IntKind.u64 (im ((0 : Nat) + j))]) (c5 : ∀ (j : Nat), j < n → ∀ (u : Sx.AV), u ∈ [Sx.AV.int true IntKind.u64 (re ((0 : Nat) + j)), Sx.AV.int true IntKind.u64 (im ((0 : Nat) + j))] → Sx.AV.low (0 : Nat) u = true) (c6 : (0 : Nat) + m ≤ m) (c7 : m * (16 : Nat) ≤ (140737488355328 : Nat)) (c8 : ∀ (j : Nat), j < m → Sx.ZRow [Sx.AV.int true IntKind.u64 (rf ((0 : Nat) + j)), Sx.AV.int true IntKind.u64 (ig ((0 : Nat) + j))]) (c9 : ∀ (j : Nat), j < m → ∀ (u : Sx.AV), u ∈ [Sx.AV.int true IntKind.u64 (rf ((0 : Nat) + j)), Sx.AV.int true IntKind.u64 (ig ((0 : Nat) + j))] → Sx.AV.low (0 : Nat) u = true) : Sx.PureP (Sx.AV.bool true) (call1 5 [.agg [.int true .u64 w, Sx.slcV 0 n, Sx.slcV 1 m], .str true l] (Sx.G.of [(0, .cells false 2 n (.fn fun j => [.int true .u64 (re j), .int true .u64 (im j)])), (1, .cells false 2 m (.fn fun j => [.int true .u64 (rf j), .int true .u64 (ig j)]))] 2 [])) := Sx.eqq (q := (((((True ∧ (((0 : Int) ≤ w) ∧ (w < (18446744073709551616 : Int)))) ∧ ((0 : Nat) + n ≤ n)) ∧ (((n * (16 : Nat) ≤ (140737488355328 : Nat)) ∧ (∀ (j : Nat), j < n → Sx.ZRow [Sx.AV.int true IntKind.u64 (re ((0 : Nat) + j)), Sx.AV.int true IntKind.u64 (im ((0 : Nat) + j))])) ∧ (∀ (j : Nat), j < n → ∀ (u : Sx.AV), u ∈ [Sx.AV.int true IntKind.u64 (re ((0 : Nat) + j)), Sx.AV.int true IntKind.u64 (im ((0 : Nat) + j))] → Sx.AV.low (0 : Nat) u = true))) ∧ ((0 : Nat) + m ≤ m)) ∧ (((m * (16 : Nat) ≤ (140737488355328 : Nat)) ∧ (∀ (j : Nat), j < m → Sx.ZRow [Sx.AV.int true IntKind.u64 (rf ((0 : Nat) + j)), Sx.AV.int true IntKind.u64 (ig ((0 : Nat) + j))])) ∧ (∀ (j : Nat), j < m → ∀ (u : Sx.AV), u ∈ [Sx.AV.int true IntKind.u64 (rf ((0 : Nat) + j)), Sx.AV.int true IntKind.u64 (ig ((0 : Nat) + j))] → Sx.AV.low (0 : Nat) u = true)))) (by kernel_rfl) ⟨⟨⟨⟨⟨trivial, ⟨c0, c1⟩⟩, c2⟩, ⟨⟨c3, c4⟩, c5⟩⟩, c6⟩, ⟨⟨c7, c8⟩, c9⟩⟩

theorem low_lit {s : Bool} {a b : Nat} {u : Sx.AV} (hu : u ∈ [Sx.AV.cpx s a b]) : u.low 0 = true := by simp at hu; subst hu; rfl
theorem low_lit2 {s s' : Bool} {k k' : IntKind} {a b : Int} {u : Sx.AV} (hu : u ∈ [Sx.AV.int s k a, Sx.AV.int s' k' b]) : u.low 0 = true := by simp at hu; rcases hu with rfl | rfl <;> rfl
/-- the numbers that words make, as rows -/
noncomputable def zq (re im : Nat → Int) (j : Nat) : List Sx.AV := [.cpx true (Sx.cn (re (0 + j)).toNat) (Sx.cn (im (0 + j)).toNat)]
def ZB (n : Nat) (re im : Nat → Int) : Prop := ∀ j, j < n → 0 ≤ re j ∧ re j < 18446744073709551616 ∧ 0 ≤ im j ∧ im j < 18446744073709551616
theorem zb_z {n : Nat} {re im : Nat → Int} (hr : ZB n re im) (j : Nat) (hj : j < n) : Sx.ZRow [.int true .u64 (re (0 + j)), .int true .u64 (im (0 + j))] := ⟨⟨true, true, rfl⟩, by have := hr j hj; rw [Nat.zero_add]; exact this⟩
theorem zb_c {n : Nat} {re im : Nat → Int} (hr : ZB n re im) (j : Nat) (hj : j < n) : Sx.CRow [.cpx true (Sx.cn (re (0 + (0 + j))).toNat) (Sx.cn (im (0 + (0 + j))).toNat)] := by
 have h := hr (0 + (0 + j)) (by omega)
 exact ⟨⟨true, rfl⟩, Sx.Fw.cn (show (re (0 + (0 + j))).toNat < 18446744073709551616 by omega), Sx.Fw.cn (show (im (0 + (0 + j))).toNat < 18446744073709551616 by omega)⟩
theorem law_road (n m : Nat) (w : Int) (l : List UInt8) (re im rf ig : Nat → Int) (hw0 : 0 ≤ w) (hw1 : w < 18446744073709551616) (hn : n * 16 ≤ 140737488351232) (hm : m * 16 ≤ 140737488351232) (hA : ZB n re im) (hB : ZB m rf ig) :
  Sx.PureP (.bool true) (call1 5 [.agg [.int true .u64 w, Sx.slcV 0 n, Sx.slcV 1 m], .str true l] (Sx.G.of [(0, .cells false 2 n (.fn fun j => [.int true .u64 (re j), .int true .u64 (im j)])), (1, .cells false 2 m (.fn fun j => [.int true .u64 (rf j), .int true .u64 (ig j)]))] 2 [])) := by
 have hZA := zb_z hA
 have hZB := zb_z hB
 exact lawY_r0 n m w l re im rf ig (by omega) (by omega) (by omega) (by omega) (fun j hj => hZA j hj) (fun j _ u hu => low_lit2 hu) (by omega) (by omega) (fun j hj => hZB j hj) (fun j _ u hu => low_lit2 hu)
set_option maxRecDepth 100000 in
theorem law_walk {H : Type} {enc : TypeId × Value → H} {base : Nat} {d0 d1 : DataW H} {p0 : List MemPlace} {wd : World} (v0 : Value) (hv0 : Value.okWide Try.prog wd .any base 26 v0) (h0 : DataW.Trod enc Try.prog wd 0 (fun _ => true) true 26 v0 d0 p0) (z0 : (DataW.weightsEach Try.prog [26, 9] [d0, d1]).all (· ≤ reachBytes) = true)
  (s : ByteArray) (hs : s.size ≤ reachBytes) (w' : World) (hw : w' = wd) :
  Calls Try.prog 5 #[v0, .string s] wd fun e w' => e = .returned (.bool true) ∧ Below wd.heap.size wd w' := by
 obtain ⟨r, n0, blk0, bs0, n1, blk1, bs1, c0, c1, hwf, hval, hbk0, hbk1, hok0, hok1, hn0, hn1⟩ := Sx.open_sol (n := 3) (shs := [.int .u64, .int .u64]) (i := 23) (s := 24) (e := 113) Try.underlying26 (by kernel_rfl) (by kernel_rfl) (by kernel_rfl) (by kernel_rfl) (by kernel_rfl) Try.underlying24 (by kernel_rfl) (by kernel_rfl) (by decide) hv0 h0 (fun x hx => of_decide_eq_true (List.all_eq_true.1 z0 x (DataW.weights_mem_each (j := 0) rfl rfl x hx)))
 rw [show Try.prog.bytesOf 113 = 16 by kernel_rfl] at hn0 hn1
 have hn0 : n0 * 16 ≤ 140737488351232 := hn0
 have hn1 : n1 * 16 ≤ 140737488351232 := hn1
 have bd : ∀ {x : Value}, (Sx.Sh.int .u64).ok x → 0 ≤ Sx.intOf x ∧ Sx.intOf x < 18446744073709551616 := fun {x} h => by
  obtain ⟨n, rfl, hw⟩ := h
  have := bounds_u64 hw
  simp only [Sx.intOf]; omega
 have br := bounds_u64 hwf
 have e1 := law_road n0 n1 r s.data.toList (fun j => Sx.intOf (c0 j 0)) (fun j => Sx.intOf (c0 j 1)) (fun j => Sx.intOf (c1 j 0)) (fun j => Sx.intOf (c1 j 1)) (by omega) (by omega) hn0 hn1 (fun j hj => ⟨(bd (hok0 j hj 0 _ rfl)).1, (bd (hok0 j hj 0 _ rfl)).2, (bd (hok0 j hj 1 _ rfl)).1, (bd (hok0 j hj 1 _ rfl)).2⟩) (fun j hj => ⟨(bd (hok1 j hj 0 _ rfl)).1, (bd (hok1 j hj 0 _ rfl)).2, (bd (hok1 j hj 1 _ rfl)).1, (bd (hok1 j hj 1 _ rfl)).2⟩)
 have hg := Sx.gv_gok (l := [⟨2, n0, blk0, bs0, fun j => [.int true .u64 (Sx.intOf (c0 j 0)), .int true .u64 (Sx.intOf (c0 j 1))]⟩, ⟨2, n1, blk1, bs1, fun j => [.int true .u64 (Sx.intOf (c1 j 0)), .int true .u64 (Sx.intOf (c1 j 1))]⟩]) (hp := wd.heap) fun i v hi μ N e1 e2 e3 => by
  match i, hi with
  | 0, hi => cases hi; exact hbk0 μ 0 N e1 e2 e3
  | 1, hi => cases hi; exact hbk1 μ 1 N e1 e2 e3
  | i + 2, hi => simp at hi
 exact Sx.heap_true call1_ok Try.func5 rfl (by kernel_rfl) e1 rfl (fun c hc => by have := hc 0 Sx.MM.none; simpa only [Sx.Rep] using this) hg (fun B => Sx.gv_may (l := [⟨2, n0, blk0, bs0, fun j => [.int true .u64 (Sx.intOf (c0 j 0)), .int true .u64 (Sx.intOf (c0 j 1))]⟩, ⟨2, n1, blk1, bs1, fun j => [.int true .u64 (Sx.intOf (c1 j 0)), .int true .u64 (Sx.intOf (c1 j 1))]⟩])) (by simp only [Sx.Reps]; exact ⟨_, _, rfl, hval _ 0 1 _ (by decide) (by decide) rfl rfl rfl rfl rfl rfl, _, _, rfl, (by simp only [Sx.Rep]), rfl⟩)



set_option maxRecDepth 100000 in
theorem law_lifted (os : Os) (started : os.Started) (H : Type) (enc : TypeId × Value → H) :
  ReturnsInHanded {} Try.checked os 5 .any (Rows.powerNoneSpec.pre6 enc Try.prog Try.f5 Rows.powerNoneRow.domain false) (Rows.powerNoneSpec.post enc Try.prog Try.f5 false true false false) := by
 refine returnsInHanded_of_change_sized (C := Try.checked) own started (by kernel_rfl) Try.func5
  (ChangeSpec.witness6 (enc := enc) (C := Try.checked) false ⟨#[], #[.agg #[.int .u64 0, .slice none 0 0, .slice none 0 0], .string ⟨#[]⟩], []⟩ 8 (by kernel_rfl) (by kernel_rfl) (by kernel_rfl) (by kernel_rfl)) ?_
 intro W base args ds gs before hval0 hW hcnd hsz0 _
 have hval : ∀ (j : Nat) t v, Try.f5.params[j]? = some t → args[j]? = some v → Value.okWide Try.prog W .any base t v := hval0
 have hsz1 : (DataW.weightsEach Try.prog (Try.f5.params.toList ++ Rows.powerNoneSpec.plain.varTypes Try.prog) (ds ++ gs)).all (· ≤ reachBytes) = true := hsz0
 have hsz : (DataW.weightsEach Try.prog [26, 9] (ds ++ gs)).all (· ≤ reachBytes) = true := by
  have e : Try.f5.params.toList ++ Rows.powerNoneSpec.plain.varTypes Try.prog = [26, 9] := by rw [Try.params5]; kernel_rfl
  rw [← e]; exact hsz1
 have hW' := hW
 obtain ⟨p, q, hA0, hV, rfl, hfz, hnd⟩ := hW
 have hA : DataW.TrodAll enc Try.prog W 0 (fun _ => true) true Try.f5.params.toList args.toList ds p := hA0
 rw [Try.params5] at hA hval
 obtain ⟨v0, vs0, d0, ds0, p0, q0, hargs, rfl, rfl, h0, r0⟩ := trodAll_cons hA
 obtain ⟨v1, vs1, d1, ds1, p1, q1, rfl, rfl, rfl, h1, r1⟩ := trodAll_cons r0
 obtain ⟨rfl, rfl, rfl⟩ := trodAll_nil r1
 obtain rfl : args = #[v0, v1] := by cases args; simp_all
 obtain ⟨rfl, rfl⟩ := trodVars_none hV
 rw [List.append_nil] at hsz
 have hk0 := h0
 have hlt0 : ∀ x ∈ p0, x.block < W.heap.size := DataW.TrodAll.lt (trodAll_mk1 h0)
 have hk1 := h1
 have hlt1 : ∀ x ∈ p1, x.block < W.heap.size := DataW.TrodAll.lt (trodAll_mk1 h1)
 obtain ⟨s1, e1, ed1, ep1, w1⟩ := Go.ChangeMaps.open_string Try.underlying9 (hval 1 9 v1 rfl rfl) h1
 have z1 : s1.size ≤ reachBytes := by
  have := sized_string hsz (j := 1) (t := 9) (bytes := s1.data.toList) rfl (by rw [← ed1]; rfl)
  simpa using this
 subst e1
 clear hA0 hval0 hsz0 hsz1
 refine (law_walk v0 (hval 0 26 v0 rfl rfl) h0 hsz s1 z1 W rfl).mono fun e W' ⟨he, bel⟩ => ?_
 subst he
 exact ⟨_, rfl, _, _, _, [], _, [], hW', trodAll_mk1 (shut_bool Try.underlying4 _), (trodAll_cons_mk (Below.trod laidOut (by kernel_rfl) (of_decide_eq_true (by kernel_rfl)) hk0 bel hlt0) (trodAll_cons_mk (Below.trod laidOut (by kernel_rfl) (of_decide_eq_true (by kernel_rfl)) hk1 bel hlt1) trodAll_mk0)), rfl, bel.frame _, fun h => by cases h⟩
theorem law_over : Rows.powerNoneRow.holds Try.pinned (OpenSpec.ofChange Rows.powerNoneSpec) :=
 OpenClaim.holds_of_wide 5 Try.f5 rfl rfl rfl rfl rfl rfl rfl ⟨rfl, rfl, rfl, rfl, rfl⟩ rfl rfl rfl rfl rfl (by kernel_rfl) Try.func5 (by kernel_rfl)
  (of_decide_eq_true (by kernel_rfl)) (by unfold Func.isWrapper; first | (rw [if_pos (by decide +kernel)]; kernel_rfl) | (rw [if_neg (by decide +kernel)]; exact ⟨rfl, rfl⟩))
  (fun os started H enc _ => law_lifted os started H enc)
/-- THE STATEMENT -/
theorem powerNone_proved : Rows.PowerNoneSaid := law_over
#print axioms powerNone_proved
end Go.Proofs.Ytmmogbldndklnaa
