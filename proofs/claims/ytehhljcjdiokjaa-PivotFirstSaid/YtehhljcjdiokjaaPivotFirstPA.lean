/- PivotFirst: a part: summaries of functions that the statement reaches, printed by program, checked by the kernel. -/
import Derived.ProofKit
import Derived.OpenShut
import Derived.KernelRfl
import Derived.SizedLaws
import Derived.Test.YtehhljcjdiokjaaProg
import Derived.Test.YtehhljcjdiokjaaSyZ
namespace Go.Proofs.Ytehhljcjdiokjaa
open Go.ChangeShapes Go.WideShapes Go.ChangeAt Go.RowKit
set_option linter.unusedVariables false
set_option linter.unusedSimpArgs false

noncomputable def gam0 : Sx.Known := Sx.kc 54 Sx.toBits (Sx.kc 60 Sx.ofBits (Sx.kn))
theorem gam0_ok : Sx.KnownOk Try.prog gam0 := Sx.kc_ok ((Sx.toBits_is Try.prog).callIs Try.func54 (by kernel_rfl) (by kernel_rfl) (by kernel_rfl) (by kernel_rfl)) (Sx.kc_ok ((Sx.ofBits_is Try.prog).callIs Try.func60 (by kernel_rfl) (by kernel_rfl) (by kernel_rfl) (by kernel_rfl)) (Sx.kn_ok))
theorem gam0_tch : Sx.KnownT gam0 := Sx.kc_tch Sx.Tch.toBits (Sx.kc_tch Sx.Tch.ofBits (Sx.kn_tch))
noncomputable def call0 : Sx.Calls' := Sx.runN Try.prog gam0 (Sx.regionC Try.prog) 1000 50
theorem call0_ok : Sx.CallOk Try.prog call0 := Sx.engineC gam0_ok gam0_tch (by kernel_rfl) (by kernel_rfl) 1000 50
theorem call0_tch : Sx.CallT call0 := Sx.runA_tch gam0_tch (fun _ _ _ h => by cases h) (fun call hc n l fr => Sx.regionC_tch hc n l fr) 50
theorem call0_reg (n : Nat) : Sx.RegionOk Try.prog (Sx.regionC Try.prog call0 n) n := Sx.runN_regionC gam0_ok gam0_tch (by kernel_rfl) (by kernel_rfl) 1000 50 n
noncomputable abbrev piececall0 (f : Func) (c : Code) (fr : Sx.Fr) (H : Sx.T Sx.ABk) (K : Nat) (path : List Bool) : Sx.Res (Sx.Ex × Sx.Fr) :=
 Sx.codeA Try.prog call0 (Sx.regionC Try.prog call0 f.ntmps) Sx.noLoops f.ntmps 1000 c fr ⟨H, K, [], path, True⟩

theorem nuA_r0 (len : Nat) (re im : Nat → Int) : Sx.PieceN 1 (Sx.Ex.normal) [(0, Sx.AV.slc true false (Sx.AA.mk false (0 : Nat) (0 : Nat) (0 : Nat)) len)] [(0, Sx.ABk.cells false (2 : Nat) len (Sx.Cont.fn fun j => [Sx.AV.int true IntKind.u64 (re j), Sx.AV.int true IntKind.u64 (im j)]))] (piececall0 Try.f10 (Sx.nav [0] (Sx.bodyOf Try.f10)) (Sx.frameOf [Sx.slcV 0 len] 0 .e) (Sx.hpL [(0, .cells false 2 len (.fn fun j => [.int true .u64 (re j), .int true .u64 (im j)]))]) 1 []) := Sx.eqn (q := True) (by kernel_rfl) trivial
theorem nuA (B : Nat) (hB : B ≤ 1) (len : Nat) (re im : Nat → Int) : Sx.GoesB Try.prog (Sx.nav [0] (Sx.bodyOf Try.f10)) Try.f10.ntmps B 1 1 (Sx.frameOf [Sx.slcV 0 len] 0 .e) (Sx.hpL [(0, .cells false 2 len (.fn fun j => [.int true .u64 (re j), .int true .u64 (im j)]))]) fun e fr' H' => (e = Sx.Ex.normal ∧ fr' = Sx.frL [(0, Sx.AV.slc true false (Sx.AA.mk false (0 : Nat) (0 : Nat) (0 : Nat)) len)] ∧ H' = Sx.hpL [(0, Sx.ABk.cells false (2 : Nat) len (Sx.Cont.fn fun j => [Sx.AV.int true IntKind.u64 (re j), Sx.AV.int true IntKind.u64 (im j)]))]) := by
 exact (Sx.GoesB.runN call0_ok (call0_reg _) (Sx.LoopsIn.none _ _ _) (nuA_r0 len re im) hB).mono fun e fr' H' h => h
theorem nuC_r0 (len : Nat) (re im : Nat → Int) : Sx.PieceN 1 (Sx.Ex.normal) [(0, Sx.AV.slc true false (Sx.AA.mk false (0 : Nat) (0 : Nat) (0 : Nat)) len), (3, Sx.AV.nils)] [(0, Sx.ABk.cells false (2 : Nat) len (Sx.Cont.fn fun j => [Sx.AV.int true IntKind.u64 (re j), Sx.AV.int true IntKind.u64 (im j)]))] (piececall0 Try.f10 (Sx.nav [1,0] (Sx.bodyOf Try.f10)) (Sx.frL [(0, Sx.slcV 0 len)]) (Sx.hpL [(0, .cells false 2 len (.fn fun j => [.int true .u64 (re j), .int true .u64 (im j)]))]) 1 []) := Sx.eqn (q := True) (by kernel_rfl) trivial
theorem nuC (B : Nat) (hB : B ≤ 1) (len : Nat) (re im : Nat → Int) : Sx.GoesB Try.prog (Sx.nav [1,0] (Sx.bodyOf Try.f10)) Try.f10.ntmps B 1 1 (Sx.frL [(0, Sx.slcV 0 len)]) (Sx.hpL [(0, .cells false 2 len (.fn fun j => [.int true .u64 (re j), .int true .u64 (im j)]))]) fun e fr' H' => (e = Sx.Ex.normal ∧ fr' = Sx.frL [(0, Sx.AV.slc true false (Sx.AA.mk false (0 : Nat) (0 : Nat) (0 : Nat)) len), (3, Sx.AV.nils)] ∧ H' = Sx.hpL [(0, Sx.ABk.cells false (2 : Nat) len (Sx.Cont.fn fun j => [Sx.AV.int true IntKind.u64 (re j), Sx.AV.int true IntKind.u64 (im j)]))]) := by
 exact (Sx.GoesB.runN call0_ok (call0_reg _) (Sx.LoopsIn.none _ _ _) (nuC_r0 len re im) hB).mono fun e fr' H' h => h
theorem nuD_r0 (len : Nat) (re im : Nat → Int) : Sx.PieceN 1 (Sx.Ex.normal) [(0, Sx.AV.slc true false (Sx.AA.mk false (0 : Nat) (0 : Nat) (0 : Nat)) len), (3, Sx.AV.nils), (4, Sx.AV.int false IntKind.i64 (0 : Int))] [(0, Sx.ABk.cells false (2 : Nat) len (Sx.Cont.fn fun j => [Sx.AV.int true IntKind.u64 (re j), Sx.AV.int true IntKind.u64 (im j)]))] (piececall0 Try.f10 (Sx.nav [1,1,0,0] (Sx.bodyOf Try.f10)) (Sx.frL [(0, Sx.slcV 0 len), (3, .nils)]) (Sx.hpL [(0, .cells false 2 len (.fn fun j => [.int true .u64 (re j), .int true .u64 (im j)]))]) 1 []) := Sx.eqn (q := True) (by kernel_rfl) trivial
theorem nuD (B : Nat) (hB : B ≤ 1) (len : Nat) (re im : Nat → Int) : Sx.GoesB Try.prog (Sx.nav [1,1,0,0] (Sx.bodyOf Try.f10)) Try.f10.ntmps B 1 1 (Sx.frL [(0, Sx.slcV 0 len), (3, .nils)]) (Sx.hpL [(0, .cells false 2 len (.fn fun j => [.int true .u64 (re j), .int true .u64 (im j)]))]) fun e fr' H' => (e = Sx.Ex.normal ∧ fr' = Sx.frL [(0, Sx.AV.slc true false (Sx.AA.mk false (0 : Nat) (0 : Nat) (0 : Nat)) len), (3, Sx.AV.nils), (4, Sx.AV.int false IntKind.i64 (0 : Int))] ∧ H' = Sx.hpL [(0, Sx.ABk.cells false (2 : Nat) len (Sx.Cont.fn fun j => [Sx.AV.int true IntKind.u64 (re j), Sx.AV.int true IntKind.u64 (im j)]))]) := by
 exact (Sx.GoesB.runN call0_ok (call0_reg _) (Sx.LoopsIn.none _ _ _) (nuD_r0 len re im) hB).mono fun e fr' H' h => h
theorem nuB_r0 (len i : Nat) (re im : Nat → Int) (c0 : decide ((↑i : Int) < (↑len : Int)) = true) (c1 : (0 : Int) ≤ (↑i : Int)) (c2 : (↑i : Int) < (↑len : Int)) (c3 : (0 : Nat) + i < len) (c4 : (0 : Nat) + (2 : Nat) ≤ (2 : Nat)) (c5 : (0 : Int) ≤ re ((0 : Nat) + i)) (c6 : re ((0 : Nat) + i) < (18446744073709551616 : Int)) (c7 : (0 : Int) ≤ im ((0 : Nat) + i)) (c8 : im ((0 : Nat) + i) < (18446744073709551616 : Int)) (c9 : i ≤ i) (c10 : (i + (1 : Nat)) * (16 : Nat) ≤ (140737488355328 : Nat)) (c11 : i + (1 : Nat) ≤ (9223372036854775807 : Nat)) (c12 : (-9223372036854775808 : Int) ≤ (↑i : Int) + (1 : Int)) (c13 : (↑i : Int) + (1 : Int) ≤ (9223372036854775807 : Int)) : Sx.PieceN 5 (Sx.Ex.normal) [(0, Sx.AV.slc true false (Sx.AA.mk false (0 : Nat) (0 : Nat) (0 : Nat)) len), (3, Sx.AV.slc true true (Sx.AA.mk false (4 : Nat) (0 : Nat) (0 : Nat)) (i + (1 : Nat))), (4, Sx.AV.int true IntKind.i64 ((↑i : Int) + (1 : Int)))] [(0, Sx.ABk.cells false (2 : Nat) len (Sx.Cont.fn fun j => [Sx.AV.int true IntKind.u64 (re j), Sx.AV.int true IntKind.u64 (im j)])), (4, Sx.ABk.cells true (1 : Nat) (i + (1 : Nat)) (Sx.Cont.fn fun j => bif decide (j < i) then [Sx.AV.cpx true (Sx.cn (Int.toNat (re j))) (Sx.cn (Int.toNat (im j)))] else [Sx.AV.cpx true (Sx.cn (Int.toNat (re ((0 : Nat) + i)))) (Sx.cn (Int.toNat (im ((0 : Nat) + i))))]))] (piececall0 Try.f10 (Sx.nav [1,1,0,1,0,0] (Sx.bodyOf Try.f10)) (Sx.frL [(0, Sx.slcV 0 len), (3, .slc true true ⟨false, 1, 0, 0⟩ i), (4, .int true .i64 i)]) (Sx.hpL [(0, .cells false 2 len (.fn fun j => [.int true .u64 (re j), .int true .u64 (im j)])), (1, .cells true 1 i (.fn fun j => [.cpx true (Sx.cn (re j).toNat) (Sx.cn (im j).toNat)]))]) 2 [true]) := Sx.eqn (q := ((((((((True ∧ (decide ((↑i : Int) < (↑len : Int)) = true)) ∧ (((0 : Int) ≤ (↑i : Int)) ∧ ((↑i : Int) < (↑len : Int)))) ∧ ((0 : Nat) + i < len)) ∧ ((0 : Nat) + (2 : Nat) ≤ (2 : Nat))) ∧ (((0 : Int) ≤ re ((0 : Nat) + i)) ∧ (re ((0 : Nat) + i) < (18446744073709551616 : Int)))) ∧ (((0 : Int) ≤ im ((0 : Nat) + i)) ∧ (im ((0 : Nat) + i) < (18446744073709551616 : Int)))) ∧ ((i ≤ i) ∧ (((i + (1 : Nat)) * (16 : Nat) ≤ (140737488355328 : Nat)) ∧ (i + (1 : Nat) ≤ (9223372036854775807 : Nat))))) ∧ (((-9223372036854775808 : Int) ≤ (↑i : Int) + (1 : Int)) ∧ ((↑i : Int) + (1 : Int) ≤ (9223372036854775807 : Int))))) (by kernel_rfl) ⟨⟨⟨⟨⟨⟨⟨⟨trivial, c0⟩, ⟨c1, c2⟩⟩, c3⟩, c4⟩, ⟨c5, c6⟩⟩, ⟨c7, c8⟩⟩, ⟨c9, ⟨c10, c11⟩⟩⟩, ⟨c12, c13⟩⟩
theorem nuB_r1 (len i : Nat) (re im : Nat → Int) (c0 : decide ((↑i : Int) < (↑len : Int)) = false) : Sx.PieceN 5 (Sx.Ex.exit (0 : Nat)) [(0, Sx.AV.slc true false (Sx.AA.mk false (0 : Nat) (0 : Nat) (0 : Nat)) len), (3, Sx.AV.slc true true (Sx.AA.mk false (1 : Nat) (0 : Nat) (0 : Nat)) i), (4, Sx.AV.int true IntKind.i64 (↑i : Int))] [(0, Sx.ABk.cells false (2 : Nat) len (Sx.Cont.fn fun j => [Sx.AV.int true IntKind.u64 (re j), Sx.AV.int true IntKind.u64 (im j)])), (1, Sx.ABk.cells true (1 : Nat) i (Sx.Cont.fn fun j => [Sx.AV.cpx true (Sx.cn (Int.toNat (re j))) (Sx.cn (Int.toNat (im j)))]))] (piececall0 Try.f10 (Sx.nav [1,1,0,1,0,0] (Sx.bodyOf Try.f10)) (Sx.frL [(0, Sx.slcV 0 len), (3, .slc true true ⟨false, 1, 0, 0⟩ i), (4, .int true .i64 i)]) (Sx.hpL [(0, .cells false 2 len (.fn fun j => [.int true .u64 (re j), .int true .u64 (im j)])), (1, .cells true 1 i (.fn fun j => [.cpx true (Sx.cn (re j).toNat) (Sx.cn (im j).toNat)]))]) 2 [false]) := Sx.eqn (q := (True ∧ (decide ((↑i : Int) < (↑len : Int)) = false))) (by kernel_rfl) ⟨trivial, c0⟩
theorem nuB (B : Nat) (hB : B ≤ 2) (len i : Nat) (re im : Nat → Int) (x0 : ((decide ((↑i : Int) < (↑len : Int))) = true → ((0 : Int) ≤ re ((0 : Nat) + i)))) (x1 : ((decide ((↑i : Int) < (↑len : Int))) = true → (re ((0 : Nat) + i) < (18446744073709551616 : Int)))) (x2 : ((decide ((↑i : Int) < (↑len : Int))) = true → ((0 : Int) ≤ im ((0 : Nat) + i)))) (x3 : ((decide ((↑i : Int) < (↑len : Int))) = true → (im ((0 : Nat) + i) < (18446744073709551616 : Int)))) (x4 : ((decide ((↑i : Int) < (↑len : Int))) = true → ((i + (1 : Nat)) * (16 : Nat) ≤ (140737488355328 : Nat)))) (x5 : ((decide ((↑i : Int) < (↑len : Int))) = true → (i + (1 : Nat) ≤ (9223372036854775807 : Nat)))) (x6 : ((decide ((↑i : Int) < (↑len : Int))) = true → ((↑i : Int) + (1 : Int) ≤ (9223372036854775807 : Int)))) : Sx.GoesB Try.prog (Sx.nav [1,1,0,1,0,0] (Sx.bodyOf Try.f10)) Try.f10.ntmps B 2 5 (Sx.frL [(0, Sx.slcV 0 len), (3, .slc true true ⟨false, 1, 0, 0⟩ i), (4, .int true .i64 i)]) (Sx.hpL [(0, .cells false 2 len (.fn fun j => [.int true .u64 (re j), .int true .u64 (im j)])), (1, .cells true 1 i (.fn fun j => [.cpx true (Sx.cn (re j).toNat) (Sx.cn (im j).toNat)]))]) fun e fr' H' => (cond (decide ((↑i : Int) < (↑len : Int))) (e = Sx.Ex.normal ∧ fr' = Sx.frL [(0, Sx.AV.slc true false (Sx.AA.mk false (0 : Nat) (0 : Nat) (0 : Nat)) len), (3, Sx.AV.slc true true (Sx.AA.mk false (4 : Nat) (0 : Nat) (0 : Nat)) (i + (1 : Nat))), (4, Sx.AV.int true IntKind.i64 ((↑i : Int) + (1 : Int)))] ∧ H' = Sx.hpL [(0, Sx.ABk.cells false (2 : Nat) len (Sx.Cont.fn fun j => [Sx.AV.int true IntKind.u64 (re j), Sx.AV.int true IntKind.u64 (im j)])), (4, Sx.ABk.cells true (1 : Nat) (i + (1 : Nat)) (Sx.Cont.fn fun j => bif decide (j < i) then [Sx.AV.cpx true (Sx.cn (Int.toNat (re j))) (Sx.cn (Int.toNat (im j)))] else [Sx.AV.cpx true (Sx.cn (Int.toNat (re ((0 : Nat) + i)))) (Sx.cn (Int.toNat (im ((0 : Nat) + i))))]))]) (e = Sx.Ex.exit (0 : Nat) ∧ fr' = Sx.frL [(0, Sx.AV.slc true false (Sx.AA.mk false (0 : Nat) (0 : Nat) (0 : Nat)) len), (3, Sx.AV.slc true true (Sx.AA.mk false (1 : Nat) (0 : Nat) (0 : Nat)) i), (4, Sx.AV.int true IntKind.i64 (↑i : Int))] ∧ H' = Sx.hpL [(0, Sx.ABk.cells false (2 : Nat) len (Sx.Cont.fn fun j => [Sx.AV.int true IntKind.u64 (re j), Sx.AV.int true IntKind.u64 (im j)])), (1, Sx.ABk.cells true (1 : Nat) i (Sx.Cont.fn fun j => [Sx.AV.cpx true (Sx.cn (Int.toNat (re j))) (Sx.cn (Int.toNat (im j)))]))])) := by
 cases t0 : decide ((↑i : Int) < (↑len : Int)) with
 | true =>
  exact (Sx.GoesB.runN call0_ok (call0_reg _) (Sx.LoopsIn.none _ _ _) (nuB_r0 len i re im t0 (by first | decide | ((try simp only [decide_eq_true_eq, decide_eq_false_iff_not] at t0); (try simp only [List.length_take, List.length_drop]); omega)) (by first | decide | ((try simp only [decide_eq_true_eq, decide_eq_false_iff_not] at t0); (try simp only [List.length_take, List.length_drop]); omega)) (by first | decide | ((try simp only [decide_eq_true_eq, decide_eq_false_iff_not] at t0); (try simp only [List.length_take, List.length_drop]); omega)) (by first | decide | ((try simp only [decide_eq_true_eq, decide_eq_false_iff_not] at t0); (try simp only [List.length_take, List.length_drop]); omega)) (x0 t0) (x1 t0) (x2 t0) (x3 t0) (by first | decide | ((try simp only [decide_eq_true_eq, decide_eq_false_iff_not] at t0); (try simp only [List.length_take, List.length_drop]); omega)) (x4 t0) (x5 t0) (by first | decide | ((try simp only [decide_eq_true_eq, decide_eq_false_iff_not] at t0); (try simp only [List.length_take, List.length_drop]); omega)) (x6 t0)) hB).mono fun e fr' H' h => by simp only [t0, cond_true, cond_false]; exact h
 | false =>
  exact (Sx.GoesB.runN call0_ok (call0_reg _) (Sx.LoopsIn.none _ _ _) (nuB_r1 len i re im t0) hB).mono fun e fr' H' h => by simp only [t0, cond_true, cond_false]; exact h
theorem nuZ_r0 (len : Nat) (q : Nat → List Sx.AV) : Sx.PieceN 2 (Sx.Ex.ret) [(2, Sx.AV.slc true true (Sx.AA.mk false (1 : Nat) (0 : Nat) (0 : Nat)) len)] [(1, Sx.ABk.cells true (1 : Nat) len (Sx.Cont.fn q))] (piececall0 Try.f10 (Sx.nav [1,1,1] (Sx.bodyOf Try.f10)) (Sx.frL [(3, .slc true true ⟨false, 1, 0, 0⟩ len)]) (Sx.hpL [(1, .cells true 1 len (.fn q))]) 2 []) := Sx.eqn (q := True) (by kernel_rfl) trivial
theorem nuZ (B : Nat) (hB : B ≤ 2) (len : Nat) (q : Nat → List Sx.AV) : Sx.GoesB Try.prog (Sx.nav [1,1,1] (Sx.bodyOf Try.f10)) Try.f10.ntmps B 2 2 (Sx.frL [(3, .slc true true ⟨false, 1, 0, 0⟩ len)]) (Sx.hpL [(1, .cells true 1 len (.fn q))]) fun e fr' H' => (e = Sx.Ex.ret ∧ fr' = Sx.frL [(2, Sx.AV.slc true true (Sx.AA.mk false (1 : Nat) (0 : Nat) (0 : Nat)) len)] ∧ H' = Sx.hpL [(1, Sx.ABk.cells true (1 : Nat) len (Sx.Cont.fn q))]) := by
 exact (Sx.GoesB.runN call0_ok (call0_reg _) (Sx.LoopsIn.none _ _ _) (nuZ_r0 len q) hB).mono fun e fr' H' h => h
def nuI (len : Nat) (re im : Nat → Int) (k : Nat) (fr : Sx.Fr) (H : Sx.T Sx.ABk) : Prop :=
 ∃ i : Nat, k = len - i ∧ i ≤ len ∧ fr = Sx.frL [(0, Sx.slcV 0 len), (3, .slc true true ⟨false, 1, 0, 0⟩ i), (4, .int true .i64 i)] ∧ H = Sx.hpL [(0, .cells false 2 len (.fn fun j => [.int true .u64 (re j), .int true .u64 (im j)])), (1, .cells true 1 i (.fn fun j => [.cpx true (Sx.cn (re j).toNat) (Sx.cn (im j).toNat)]))]
def nuP (len : Nat) (re im : Nat → Int) : Sx.Po := fun e fr H => e = .exit 0 ∧ fr = Sx.frL [(3, .slc true true ⟨false, 1, 0, 0⟩ len)] ∧ H = Sx.hpL [(1, .cells true 1 len (.fn fun j => [.cpx true (Sx.cn (re j).toNat) (Sx.cn (im j).toNat)]))]
theorem nu_body (len : Nat) (re im : Nat → Int) (hr : ∀ j, j < len → 0 ≤ re j ∧ re j < 18446744073709551616 ∧ 0 ≤ im j ∧ im j < 18446744073709551616) (hl : len * 16 ≤ 140737488355328) (k : Nat) (fr : Sx.Fr) (H : Sx.T Sx.ABk) (hI : nuI len re im k fr H) :
  Sx.GoesB Try.prog (Sx.nav [1,1,0,1,0,0] (Sx.bodyOf Try.f10)) Try.f10.ntmps 1 2 2 fr H fun e fr' H' => match e with
   | .normal => ∃ k', k' < k ∧ nuI len re im k' fr' H'
   | e => nuP len re im e fr' H' := by
 obtain ⟨i, rfl, hi, rfl, rfl⟩ := hI
 have hx : decide ((i : Int) < (len : Int)) = true → i < len := fun t => by have := of_decide_eq_true t; omega
 refine (nuB 1 (by omega) len i re im (fun t => by simpa using (hr i (hx t)).1) (fun t => by simpa using (hr i (hx t)).2.1) (fun t => by simpa using (hr i (hx t)).2.2.1) (fun t => by simpa using (hr i (hx t)).2.2.2) (fun t => by have := hx t; omega) (fun t => by have := hx t; omega) (fun t => by have := hx t; omega)).renL fun e fr' H' h => ?_
 refine Sx.cond_elim h (fun t h => ?_) (fun t h => ?_)
 ·have hlt := hx t
  obtain ⟨rfl, rfl, rfl⟩ := h
  refine ⟨fun g => if g = 1 then 4 else g, [(0, Sx.slcV 0 len), (3, .slc true true ⟨false, 1, 0, 0⟩ (i + 1)), (4, .int true .i64 ((i + 1 : Nat) : Int))], [(0, .cells false 2 len (.fn fun j => [.int true .u64 (re j), .int true .u64 (im j)])), (1, .cells true 1 (i + 1) (.fn fun j => [.cpx true (Sx.cn (re j).toNat) (Sx.cn (im j).toNat)]))], fun g hg => if_neg (by omega),
   ⟨⟨_, rfl, Sx.AV.ge.refl _, rfl⟩, ⟨_, rfl, Sx.AV.ge.refl _, rfl⟩, ⟨_, rfl, Sx.AV.ge.int' _ _ _ (by simp), rfl⟩, trivial⟩,
   ⟨⟨_, rfl, Sx.SameC.refl _, Sx.bare_int2 _ _ _, Nat.zero_lt_succ _⟩, ⟨_, rfl, ⟨rfl, rfl, rfl, fun j hj => ?_⟩, Sx.bare_cpx _ _ _ _, Nat.lt_succ_self _⟩, trivial⟩, fun a b ha hb hab => by dsimp only at hab; split at hab <;> split at hab <;> omega, len - (i + 1), by omega, i + 1, rfl, by omega, rfl, rfl⟩
  simp only [Sx.Cont.row]
  by_cases hji : j < i
  ·simp [hji]
  ·have e : j = i := by omega
   subst e
   simp
 ·have e : i = len := by have := of_decide_eq_false t; omega
  subst e
  obtain ⟨rfl, rfl, rfl⟩ := h
  exact ⟨id, [(3, .slc true true ⟨false, 1, 0, 0⟩ i)], [(1, .cells true 1 i (.fn fun j => [.cpx true (Sx.cn (re j).toNat) (Sx.cn (im j).toNat)]))], fun _ _ => rfl, ⟨⟨_, rfl, Sx.AV.ge.refl _, rfl⟩, trivial⟩, ⟨⟨_, rfl, Sx.SameC.refl _, Sx.bare_cpx _ _ _ _, Nat.lt_succ_self _⟩, trivial⟩, fun _ _ _ _ h => h, rfl, rfl, rfl⟩
theorem nu_is : (Sx.bodyOf Try.f10) = .seq (Sx.nav [0] (Sx.bodyOf Try.f10)) (.seq (Sx.nav [1,0] (Sx.bodyOf Try.f10)) (.seq (.seq (Sx.nav [1,1,0,0] (Sx.bodyOf Try.f10)) (.block 0 (.loop (Sx.nav [1,1,0,1,0,0] (Sx.bodyOf Try.f10))))) (Sx.nav [1,1,1] (Sx.bodyOf Try.f10)))) := by kernel_rfl
theorem nu_goes (len : Nat) (re im : Nat → Int) (hr : ∀ j, j < len → 0 ≤ re j ∧ re j < 18446744073709551616 ∧ 0 ≤ im j ∧ im j < 18446744073709551616) (hl : len * 16 ≤ 140737488355328) :
  Sx.GoesB Try.prog (Sx.bodyOf Try.f10) Try.f10.ntmps 1 1 2 (Sx.frameOf [Sx.slcV 0 len] 0 .e) (Sx.hpL [(0, .cells false 2 len (.fn fun j => [.int true .u64 (re j), .int true .u64 (im j)]))]) fun e fr' H' => e = .ret ∧ fr' = Sx.frL [(2, .slc true true ⟨false, 1, 0, 0⟩ len)] ∧ H' = Sx.hpL [(1, .cells true 1 len (.fn fun j => [.cpx true (Sx.cn (re j).toNat) (Sx.cn (im j).toNat)]))] := by
 rw [nu_is]
 refine Sx.GoesB.seq (K1 := 1) (by omega) ((nuA 1 (by omega) len re im).mono fun e fr' H' ⟨e1, e2, e3⟩ => ?_)
 subst e1 e2 e3
 refine Sx.GoesB.seq (K1 := 1) (by omega) ((nuC 1 (by omega) len re im).mono fun e fr' H' ⟨e1, e2, e3⟩ => ?_)
 subst e1 e2 e3
 refine Sx.GoesB.seq (K1 := 2) (by omega) (Sx.GoesB.seq (K1 := 1) (by omega) ((nuD 1 (by omega) len re im).mono fun e fr' H' ⟨e1, e2, e3⟩ => ?_))
 subst e1 e2 e3
 refine Sx.GoesB.phantom 3 1 (fun j => [.cpx true (Sx.cn (re j).toNat) (Sx.cn (im j).toNat)]) rfl (by omega) (by omega) ?_
 refine Sx.GoesB.weakL (fl := [(0, Sx.slcV 0 len), (3, .slc true true ⟨false, 1, 0, 0⟩ 0), (4, .int true .i64 (0 : Nat))]) (bl := [(0, .cells false 2 len (.fn fun j => [.int true .u64 (re j), .int true .u64 (im j)])), (1, .cells true 1 0 (.fn fun j => [.cpx true (Sx.cn (re j).toNat) (Sx.cn (im j).toNat)]))]) ⟨⟨_, rfl, Sx.AV.ge.refl _⟩, ⟨_, rfl, Sx.AV.ge.refl _⟩, ⟨_, rfl, Sx.AV.ge.int _ _ _ _⟩, trivial⟩ ⟨⟨_, rfl, Sx.SameC.refl _⟩, ⟨_, rfl, Sx.SameC.refl _⟩, trivial⟩ ?_
 refine Sx.GoesB.block ((Sx.GoesB.loop (nuI len re im) (Post := nuP len re im) (nu_body len re im hr hl) _ _ _ ⟨0, rfl, by omega, rfl, rfl⟩).mono fun e fr' H' ⟨e1, e2, e3⟩ => ?_)
 subst e1 e2 e3
 simp only [if_true]
 exact nuZ 1 (by omega) len _
def numP (len : Nat) (rows : Nat → List Sx.AV) : Prop := len * 16 ≤ 140737488355328 ∧ ∀ j, j < len → Sx.ZRow (rows j)
noncomputable def numbersS : List Sx.AV → Sx.M Sx.AV
 | [x] => (Sx.rd 2 x numP).andThen fun y => Sx.newS 1 y.1 fun j => [.cpx true (Sx.cn (Sx.zre (y.2 j)).toNat) (Sx.cn (Sx.zim (y.2 j)).toNat)]
 | _ => Sx.M.no
theorem numbersS_ok : ∀ args v g g', numbersS args g = .done v g' → Sx.CallIs Try.prog 10 args v g g' := by
 intro args v g g' h
 unfold numbersS at h
 split at h
 ·rename_i x
  obtain ⟨⟨len, rows⟩, g1, a1, h1⟩ := Sx.done_of h
  obtain ⟨q, kq, hq⟩ := Sx.rd_done a1 (by omega)
  obtain ⟨rfl, e1, e2, e3⟩ := Sx.newS_done h1
  dsimp only at e1 e2 hq
  rw [kq.1, kq.2.1] at e1
  rw [kq.2.1] at e2
  rw [kq.2.1]
  refine Sx.reads (c := (Sx.bodyOf Try.f10)) Try.func10 (by kernel_rfl) (by kernel_rfl) kq [⟨x, 2, len, rows⟩] (fun hp v hv => ?_) (argsC := [Sx.slcV 0 len]) (fun hp N μ cs hcs => ?_) (nms := [1]) (bs := [.cells true 1 len (.fn fun j => [.cpx true (Sx.cn (Sx.zre (rows j)).toNat) (Sx.cn (Sx.zim (rows j)).toNat)])]) (K' := 2) (fun hp => ?_) ?_ ?_ e1 e2 (fun h => by rw [← e3]; exact h)
  ·rcases List.mem_cons.1 hv with rfl | hv
   ·exact (hq hp).1
   ·cases hv
  ·simp only [Sx.Reps] at hcs
   obtain ⟨c, r, rfl, hc, rfl⟩ := hcs
   simp only [Sx.Reps]
   exact ⟨c, [], rfl, Sx.vw_val (l := [⟨x, 2, len, rows⟩]) (i := 0) (hq hp).1 rfl hc, rfl⟩
  ·obtain ⟨_, hl, hz⟩ := hq hp
   refine Sx.GoesB.weakGL (fl := [(0, Sx.slcV 0 len)]) (bl := [(0, .cells false 2 len (.fn fun j => [.int true .u64 (Sx.zre (rows j)), .int true .u64 (Sx.zim (rows j))]))]) ⟨⟨_, rfl, Sx.AV.ge.refl _⟩, trivial⟩ ⟨⟨_, rfl, rfl, rfl, rfl, fun j hj => (hz j hj).ge⟩, trivial⟩ ?_
   refine (nu_goes len (fun j => Sx.zre (rows j)) (fun j => Sx.zim (rows j)) (fun j hj => (hz j hj).2) hl).mono fun e fr' H' ⟨e1, e2, e3⟩ => ?_
   subst e1 e2 e3
   exact ⟨.inl rfl, _, _, Sx.res1 (t := 2) (by kernel_rfl) rfl, trivial, Sx.ge_new _ _ _ _, Sx.news1 rfl (Sx.SameC.refl _) rfl (Sx.bare_cpx _ _ _ _)⟩
  ·simp [Sx.AV.low]
  ·show g.nx ≤ g.nx; exact Nat.le_refl _
 ·exact (Sx.no_done h).elim
theorem numbersS_tch : ∀ args, Sx.Tch (numbersS args) := by
 intro args
 unfold numbersS
 split
 ·exact (Sx.Tch.rd _ _ _).andThen fun _ => Sx.Tch.newS _ _ _
 ·exact Sx.Tch.no
theorem leN_r0 (len : Nat) (q : Nat → List Sx.AV) (c0 : (0 : Nat) + len ≤ len) (c1 : len * (16 : Nat) ≤ (140737488355328 : Nat)) (c2 : len ≤ (9223372036854775807 : Nat)) (c3 : len ≤ len) (c4 : (len + (1 : Nat)) * (16 : Nat) ≤ (140737488355328 : Nat)) (c5 : len + (1 : Nat) ≤ (9223372036854775807 : Nat)) (c6 : len + (1 : Nat) ≤ len + (1 : Nat)) (c7 : (len + (1 : Nat) + (1 : Nat)) * (16 : Nat) ≤ (140737488355328 : Nat)) (c8 : len + (1 : Nat) + (1 : Nat) ≤ (9223372036854775807 : Nat)) (c9 : len + (1 : Nat) + (1 : Nat) ≤ len + (1 : Nat) + (1 : Nat)) (c10 : (len + (1 : Nat) + (1 : Nat) + (1 : Nat)) * (16 : Nat) ≤ (140737488355328 : Nat)) (c11 : len + (1 : Nat) + (1 : Nat) + (1 : Nat) ≤ (9223372036854775807 : Nat)) (c12 : len + (1 : Nat) + (1 : Nat) + (1 : Nat) ≤ len + (1 : Nat) + (1 : Nat) + (1 : Nat)) (c13 : (len + (1 : Nat) + (1 : Nat) + (1 : Nat) + (1 : Nat)) * (16 : Nat) ≤ (140737488355328 : Nat)) (c14 : len + (1 : Nat) + (1 : Nat) + (1 : Nat) + (1 : Nat) ≤ (9223372036854775807 : Nat)) (c15 : len + (1 : Nat) + (1 : Nat) + (1 : Nat) + (1 : Nat) ≤ len + (1 : Nat) + (1 : Nat) + (1 : Nat) + (1 : Nat)) (c16 : (len + (1 : Nat) + (1 : Nat) + (1 : Nat) + (1 : Nat) + (1 : Nat)) * (16 : Nat) ≤ (140737488355328 : Nat)) (c17 : len + (1 : Nat) + (1 : Nat) + (1 : Nat) + (1 : Nat) + (1 : Nat) ≤ (9223372036854775807 : Nat)) (c18 : len + (1 : Nat) + (1 : Nat) + (1 : Nat) + (1 : Nat) + (1 : Nat) ≤ len + (1 : Nat) + (1 : Nat) + (1 : Nat) + (1 : Nat) + (1 : Nat)) (c19 : (len + (1 : Nat) + (1 : Nat) + (1 : Nat) + (1 : Nat) + (1 : Nat) + (1 : Nat)) * (16 : Nat) ≤ (140737488355328 : Nat)) (c20 : len + (1 : Nat) + (1 : Nat) + (1 : Nat) + (1 : Nat) + (1 : Nat) + (1 : Nat) ≤ (9223372036854775807 : Nat)) : Sx.PieceN 14 (Sx.Ex.ret) [(2, Sx.AV.slc true true (Sx.AA.mk false (13 : Nat) (0 : Nat) (0 : Nat)) (len + (1 : Nat) + (1 : Nat) + (1 : Nat) + (1 : Nat) + (1 : Nat) + (1 : Nat)))] [(13, Sx.ABk.cells true (1 : Nat) (len + (1 : Nat) + (1 : Nat) + (1 : Nat) + (1 : Nat) + (1 : Nat) + (1 : Nat)) (Sx.Cont.fn fun j => bif decide (j < len + (1 : Nat) + (1 : Nat) + (1 : Nat) + (1 : Nat) + (1 : Nat)) then bif decide (j < len + (1 : Nat) + (1 : Nat) + (1 : Nat) + (1 : Nat)) then bif decide (j < len + (1 : Nat) + (1 : Nat) + (1 : Nat)) then bif decide (j < len + (1 : Nat) + (1 : Nat)) then bif decide (j < len + (1 : Nat)) then bif decide (j < len) then q ((0 : Nat) + j) else [Sx.AV.cpx false (13887798879287508992 : Nat) (4619567317775286272 : Nat)] else [Sx.AV.cpx false (13887799978799136768 : Nat) (4619567317775286272 : Nat)] else [Sx.AV.cpx false (13887801078310764544 : Nat) (4619567317775286272 : Nat)] else [Sx.AV.cpx false (13887802177822392320 : Nat) (4619567317775286272 : Nat)] else [Sx.AV.cpx false (13887803277334020096 : Nat) (4619567317775286272 : Nat)] else [Sx.AV.cpx false (13887804376845647872 : Nat) (4619567317775286272 : Nat)]))] (piececall0 Try.f11 (Sx.bodyOf Try.f11) (Sx.frameOf [Sx.slcV 0 len] 0 .e) (Sx.hpL [(0, .cells false 1 len (.fn q))]) 1 []) := Sx.eqn (q := ((((((((True ∧ ((0 : Nat) + len ≤ len)) ∧ ((len * (16 : Nat) ≤ (140737488355328 : Nat)) ∧ (len ≤ (9223372036854775807 : Nat)))) ∧ ((len ≤ len) ∧ (((len + (1 : Nat)) * (16 : Nat) ≤ (140737488355328 : Nat)) ∧ (len + (1 : Nat) ≤ (9223372036854775807 : Nat))))) ∧ ((len + (1 : Nat) ≤ len + (1 : Nat)) ∧ (((len + (1 : Nat) + (1 : Nat)) * (16 : Nat) ≤ (140737488355328 : Nat)) ∧ (len + (1 : Nat) + (1 : Nat) ≤ (9223372036854775807 : Nat))))) ∧ ((len + (1 : Nat) + (1 : Nat) ≤ len + (1 : Nat) + (1 : Nat)) ∧ (((len + (1 : Nat) + (1 : Nat) + (1 : Nat)) * (16 : Nat) ≤ (140737488355328 : Nat)) ∧ (len + (1 : Nat) + (1 : Nat) + (1 : Nat) ≤ (9223372036854775807 : Nat))))) ∧ ((len + (1 : Nat) + (1 : Nat) + (1 : Nat) ≤ len + (1 : Nat) + (1 : Nat) + (1 : Nat)) ∧ (((len + (1 : Nat) + (1 : Nat) + (1 : Nat) + (1 : Nat)) * (16 : Nat) ≤ (140737488355328 : Nat)) ∧ (len + (1 : Nat) + (1 : Nat) + (1 : Nat) + (1 : Nat) ≤ (9223372036854775807 : Nat))))) ∧ ((len + (1 : Nat) + (1 : Nat) + (1 : Nat) + (1 : Nat) ≤ len + (1 : Nat) + (1 : Nat) + (1 : Nat) + (1 : Nat)) ∧ (((len + (1 : Nat) + (1 : Nat) + (1 : Nat) + (1 : Nat) + (1 : Nat)) * (16 : Nat) ≤ (140737488355328 : Nat)) ∧ (len + (1 : Nat) + (1 : Nat) + (1 : Nat) + (1 : Nat) + (1 : Nat) ≤ (9223372036854775807 : Nat))))) ∧ ((len + (1 : Nat) + (1 : Nat) + (1 : Nat) + (1 : Nat) + (1 : Nat) ≤ len + (1 : Nat) + (1 : Nat) + (1 : Nat) + (1 : Nat) + (1 : Nat)) ∧ (((len + (1 : Nat) + (1 : Nat) + (1 : Nat) + (1 : Nat) + (1 : Nat) + (1 : Nat)) * (16 : Nat) ≤ (140737488355328 : Nat)) ∧ (len + (1 : Nat) + (1 : Nat) + (1 : Nat) + (1 : Nat) + (1 : Nat) + (1 : Nat) ≤ (9223372036854775807 : Nat)))))) (by kernel_rfl) ⟨⟨⟨⟨⟨⟨⟨⟨trivial, c0⟩, ⟨c1, c2⟩⟩, ⟨c3, ⟨c4, c5⟩⟩⟩, ⟨c6, ⟨c7, c8⟩⟩⟩, ⟨c9, ⟨c10, c11⟩⟩⟩, ⟨c12, ⟨c13, c14⟩⟩⟩, ⟨c15, ⟨c16, c17⟩⟩⟩, ⟨c18, ⟨c19, c20⟩⟩⟩
theorem leN (B : Nat) (hB : B ≤ 1) (len : Nat) (q : Nat → List Sx.AV) (x0 : (len * (16 : Nat) ≤ (140737488355328 : Nat))) (x1 : (len ≤ (9223372036854775807 : Nat))) (x2 : ((len + (1 : Nat)) * (16 : Nat) ≤ (140737488355328 : Nat))) (x3 : (len + (1 : Nat) ≤ (9223372036854775807 : Nat))) (x4 : ((len + (1 : Nat) + (1 : Nat)) * (16 : Nat) ≤ (140737488355328 : Nat))) (x5 : (len + (1 : Nat) + (1 : Nat) ≤ (9223372036854775807 : Nat))) (x6 : ((len + (1 : Nat) + (1 : Nat) + (1 : Nat)) * (16 : Nat) ≤ (140737488355328 : Nat))) (x7 : (len + (1 : Nat) + (1 : Nat) + (1 : Nat) ≤ (9223372036854775807 : Nat))) (x8 : ((len + (1 : Nat) + (1 : Nat) + (1 : Nat) + (1 : Nat)) * (16 : Nat) ≤ (140737488355328 : Nat))) (x9 : (len + (1 : Nat) + (1 : Nat) + (1 : Nat) + (1 : Nat) ≤ (9223372036854775807 : Nat))) (x10 : ((len + (1 : Nat) + (1 : Nat) + (1 : Nat) + (1 : Nat) + (1 : Nat)) * (16 : Nat) ≤ (140737488355328 : Nat))) (x11 : (len + (1 : Nat) + (1 : Nat) + (1 : Nat) + (1 : Nat) + (1 : Nat) ≤ (9223372036854775807 : Nat))) (x12 : ((len + (1 : Nat) + (1 : Nat) + (1 : Nat) + (1 : Nat) + (1 : Nat) + (1 : Nat)) * (16 : Nat) ≤ (140737488355328 : Nat))) (x13 : (len + (1 : Nat) + (1 : Nat) + (1 : Nat) + (1 : Nat) + (1 : Nat) + (1 : Nat) ≤ (9223372036854775807 : Nat))) : Sx.GoesB Try.prog (Sx.bodyOf Try.f11) Try.f11.ntmps B 1 14 (Sx.frameOf [Sx.slcV 0 len] 0 .e) (Sx.hpL [(0, .cells false 1 len (.fn q))]) fun e fr' H' => (e = Sx.Ex.ret ∧ fr' = Sx.frL [(2, Sx.AV.slc true true (Sx.AA.mk false (13 : Nat) (0 : Nat) (0 : Nat)) (len + (1 : Nat) + (1 : Nat) + (1 : Nat) + (1 : Nat) + (1 : Nat) + (1 : Nat)))] ∧ H' = Sx.hpL [(13, Sx.ABk.cells true (1 : Nat) (len + (1 : Nat) + (1 : Nat) + (1 : Nat) + (1 : Nat) + (1 : Nat) + (1 : Nat)) (Sx.Cont.fn fun j => bif decide (j < len + (1 : Nat) + (1 : Nat) + (1 : Nat) + (1 : Nat) + (1 : Nat)) then bif decide (j < len + (1 : Nat) + (1 : Nat) + (1 : Nat) + (1 : Nat)) then bif decide (j < len + (1 : Nat) + (1 : Nat) + (1 : Nat)) then bif decide (j < len + (1 : Nat) + (1 : Nat)) then bif decide (j < len + (1 : Nat)) then bif decide (j < len) then q ((0 : Nat) + j) else [Sx.AV.cpx false (13887798879287508992 : Nat) (4619567317775286272 : Nat)] else [Sx.AV.cpx false (13887799978799136768 : Nat) (4619567317775286272 : Nat)] else [Sx.AV.cpx false (13887801078310764544 : Nat) (4619567317775286272 : Nat)] else [Sx.AV.cpx false (13887802177822392320 : Nat) (4619567317775286272 : Nat)] else [Sx.AV.cpx false (13887803277334020096 : Nat) (4619567317775286272 : Nat)] else [Sx.AV.cpx false (13887804376845647872 : Nat) (4619567317775286272 : Nat)]))]) := by
 exact (Sx.GoesB.runN call0_ok (call0_reg _) (Sx.LoopsIn.none _ _ _) (leN_r0 len q (by first | decide | omega) (x0) (x1) (by first | decide | omega) (x2) (x3) (by first | decide | omega) (x4) (x5) (by first | decide | omega) (x6) (x7) (by first | decide | omega) (x8) (x9) (by first | decide | omega) (x10) (x11) (by first | decide | omega) (x12) (x13)) hB).mono fun e fr' H' h => h
noncomputable def leR (len : Nat) (q : Nat → List Sx.AV) (j : Nat) : List Sx.AV := bif decide (j < len + (1 : Nat) + (1 : Nat) + (1 : Nat) + (1 : Nat) + (1 : Nat)) then bif decide (j < len + (1 : Nat) + (1 : Nat) + (1 : Nat) + (1 : Nat)) then bif decide (j < len + (1 : Nat) + (1 : Nat) + (1 : Nat)) then bif decide (j < len + (1 : Nat) + (1 : Nat)) then bif decide (j < len + (1 : Nat)) then bif decide (j < len) then q ((0 : Nat) + j) else [Sx.AV.cpx false (13887798879287508992 : Nat) (4619567317775286272 : Nat)] else [Sx.AV.cpx false (13887799978799136768 : Nat) (4619567317775286272 : Nat)] else [Sx.AV.cpx false (13887801078310764544 : Nat) (4619567317775286272 : Nat)] else [Sx.AV.cpx false (13887802177822392320 : Nat) (4619567317775286272 : Nat)] else [Sx.AV.cpx false (13887803277334020096 : Nat) (4619567317775286272 : Nat)] else [Sx.AV.cpx false (13887804376845647872 : Nat) (4619567317775286272 : Nat)]
theorem leR_all {p : List Sx.AV → Prop} (len : Nat) (q : Nat → List Sx.AV) (hq : ∀ j, j < len → p (q j)) (hm : ∀ a, a ∈ [13887804376845647872, 13887803277334020096, 13887802177822392320, 13887801078310764544, 13887799978799136768, 13887798879287508992] → p [.cpx false a 4619567317775286272]) (j : Nat) : p (leR len q j) := by
 unfold leR
 rw [Nat.zero_add]
 cases h5 : decide (j < len + 1 + 1 + 1 + 1 + 1) with
 | false => exact hm _ (by simp)
 | true =>
  rw [cond_true]
  cases h4 : decide (j < len + 1 + 1 + 1 + 1) with
  | false => exact hm _ (by simp)
  | true =>
   rw [cond_true]
   cases h3 : decide (j < len + 1 + 1 + 1) with
   | false => exact hm _ (by simp)
   | true =>
    rw [cond_true]
    cases h2 : decide (j < len + 1 + 1) with
    | false => exact hm _ (by simp)
    | true =>
     rw [cond_true]
     cases h1 : decide (j < len + 1) with
     | false => exact hm _ (by simp)
     | true =>
      rw [cond_true]
      cases h0 : decide (j < len) with
      | false => exact hm _ (by simp)
      | true =>
       rw [cond_true]
       exact hq j (of_decide_eq_true h0)
theorem leR_lt (len : Nat) (q : Nat → List Sx.AV) (j : Nat) (h : j < len) : leR len q j = q j := by
 unfold leR
 rw [Nat.zero_add]
 simp only [show decide (j < len + 1 + 1 + 1 + 1 + 1) = true from decide_eq_true (by omega), show decide (j < len + 1 + 1 + 1 + 1) = true from decide_eq_true (by omega), show decide (j < len + 1 + 1 + 1) = true from decide_eq_true (by omega), show decide (j < len + 1 + 1) = true from decide_eq_true (by omega), show decide (j < len + 1) = true from decide_eq_true (by omega), decide_eq_true h, cond_true]
theorem leR_bare (len : Nat) (q : Nat → List Sx.AV) (hq : ∀ j, j < len → ∀ u, u ∈ q j → u.low 0 = true) (j : Nat) : ∀ u, u ∈ leR len q j → u.low 0 = true :=
 leR_all (p := fun r => ∀ u, u ∈ r → u.low 0 = true) len q hq (fun a _ u hu => by simp at hu; subst hu; rfl) j
theorem leR_crow (len : Nat) (q : Nat → List Sx.AV) (hq : Sx.CRows len q) (n : Nat) : Sx.CRows n (leR len q) := fun j _ =>
 leR_all (p := Sx.CRow) len q hq (fun a ha => ⟨⟨false, rfl⟩, by
  simp at ha
  rcases ha with rfl | rfl | rfl | rfl | rfl | rfl <;> exact ⟨by decide, by kernel_rfl⟩, ⟨by show (4619567317775286272 : Nat) < 18446744073709551616; decide, by kernel_rfl⟩⟩) j
theorem le_a (len n : Nat) (hl : (len + 6) * 16 ≤ 140737488355328) (h : n ≤ len + 6) : n * 16 ≤ 140737488355328 := Nat.le_trans (Nat.mul_le_mul_right 16 h) hl
theorem le_b (len n : Nat) (hl : (len + 6) * 16 ≤ 140737488355328) (h : n ≤ len + 6) : n ≤ 9223372036854775807 := by
 have := le_a len n hl h
 omega
theorem le_goes (len : Nat) (q : Nat → List Sx.AV) (hl : (len + 6) * 16 ≤ 140737488355328) : Sx.GoesB Try.prog (Sx.bodyOf Try.f11) Try.f11.ntmps 1 1 14 (Sx.frameOf [Sx.slcV 0 len] 0 .e) (Sx.hpL [(0, .cells false 1 len (.fn q))]) fun e fr' H' => (e = Sx.Ex.ret ∧ fr' = Sx.frL [(2, Sx.AV.slc true true (Sx.AA.mk false (13 : Nat) (0 : Nat) (0 : Nat)) (len + (1 : Nat) + (1 : Nat) + (1 : Nat) + (1 : Nat) + (1 : Nat) + (1 : Nat)))] ∧ H' = Sx.hpL [(13, Sx.ABk.cells true (1 : Nat) (len + (1 : Nat) + (1 : Nat) + (1 : Nat) + (1 : Nat) + (1 : Nat) + (1 : Nat)) (Sx.Cont.fn fun j => bif decide (j < len + (1 : Nat) + (1 : Nat) + (1 : Nat) + (1 : Nat) + (1 : Nat)) then bif decide (j < len + (1 : Nat) + (1 : Nat) + (1 : Nat) + (1 : Nat)) then bif decide (j < len + (1 : Nat) + (1 : Nat) + (1 : Nat)) then bif decide (j < len + (1 : Nat) + (1 : Nat)) then bif decide (j < len + (1 : Nat)) then bif decide (j < len) then q ((0 : Nat) + j) else [Sx.AV.cpx false (13887798879287508992 : Nat) (4619567317775286272 : Nat)] else [Sx.AV.cpx false (13887799978799136768 : Nat) (4619567317775286272 : Nat)] else [Sx.AV.cpx false (13887801078310764544 : Nat) (4619567317775286272 : Nat)] else [Sx.AV.cpx false (13887802177822392320 : Nat) (4619567317775286272 : Nat)] else [Sx.AV.cpx false (13887803277334020096 : Nat) (4619567317775286272 : Nat)] else [Sx.AV.cpx false (13887804376845647872 : Nat) (4619567317775286272 : Nat)]))]) := leN 1 (Nat.le_refl 1) len q (le_a len _ hl (Nat.add_le_add_left (Nat.le_of_ble_eq_true rfl : 0 ≤ 6) len)) (le_b len _ hl (Nat.add_le_add_left (Nat.le_of_ble_eq_true rfl : 0 ≤ 6) len)) (le_a len _ hl (Nat.add_le_add_left (Nat.le_of_ble_eq_true rfl : 1 ≤ 6) len)) (le_b len _ hl (Nat.add_le_add_left (Nat.le_of_ble_eq_true rfl : 1 ≤ 6) len)) (le_a len _ hl (Nat.add_le_add_left (Nat.le_of_ble_eq_true rfl : 2 ≤ 6) len)) (le_b len _ hl (Nat.add_le_add_left (Nat.le_of_ble_eq_true rfl : 2 ≤ 6) len)) (le_a len _ hl (Nat.add_le_add_left (Nat.le_of_ble_eq_true rfl : 3 ≤ 6) len)) (le_b len _ hl (Nat.add_le_add_left (Nat.le_of_ble_eq_true rfl : 3 ≤ 6) len)) (le_a len _ hl (Nat.add_le_add_left (Nat.le_of_ble_eq_true rfl : 4 ≤ 6) len)) (le_b len _ hl (Nat.add_le_add_left (Nat.le_of_ble_eq_true rfl : 4 ≤ 6) len)) (le_a len _ hl (Nat.add_le_add_left (Nat.le_of_ble_eq_true rfl : 5 ≤ 6) len)) (le_b len _ hl (Nat.add_le_add_left (Nat.le_of_ble_eq_true rfl : 5 ≤ 6) len)) (le_a len _ hl (Nat.add_le_add_left (Nat.le_of_ble_eq_true rfl : 6 ≤ 6) len)) (le_b len _ hl (Nat.add_le_add_left (Nat.le_of_ble_eq_true rfl : 6 ≤ 6) len))
noncomputable def lentS : List Sx.AV → Sx.M Sx.AV
 | [x] => (Sx.rd 1 x fun len _ => (len + 6) * 16 ≤ 140737488355328).andThen fun y => Sx.newS 1 (y.1 + 1 + 1 + 1 + 1 + 1 + 1) (leR y.1 y.2)
 | _ => Sx.M.no
theorem lentS_ok : ∀ args v g g', lentS args g = .done v g' → Sx.CallIs Try.prog 11 args v g g' := by
 intro args v g g' h
 unfold lentS at h
 split at h
 ·rename_i x
  obtain ⟨⟨len, rows⟩, g1, a1, h1⟩ := Sx.done_of h
  obtain ⟨q, kq, hq⟩ := Sx.rd_done a1 (by omega)
  obtain ⟨rfl, e1, e2, e3⟩ := Sx.newS_done h1
  dsimp only at e1 e2 hq
  rw [kq.1, kq.2.1] at e1
  rw [kq.2.1] at e2
  rw [kq.2.1]
  refine Sx.reads (c := (Sx.bodyOf Try.f11)) Try.func11 (by kernel_rfl) (by kernel_rfl) kq [⟨x, 1, len, rows⟩] (fun hp v hv => ?_) (argsC := [Sx.slcV 0 len]) (fun hp N μ cs hcs => ?_) (nms := [13]) (bs := [.cells true 1 (len + 1 + 1 + 1 + 1 + 1 + 1) (.fn (leR len rows))]) (K' := 14) (fun hp => ?_) ?_ ?_ e1 e2 (fun h => by rw [← e3]; exact h)
  ·rcases List.mem_cons.1 hv with rfl | hv
   ·exact (hq hp).1
   ·cases hv
  ·simp only [Sx.Reps] at hcs
   obtain ⟨c, r, rfl, hc, rfl⟩ := hcs
   simp only [Sx.Reps]
   exact ⟨c, [], rfl, Sx.vw_val (l := [⟨x, 1, len, rows⟩]) (i := 0) (hq hp).1 rfl hc, rfl⟩
  ·obtain ⟨hv, hl⟩ := hq hp
   refine (le_goes len rows hl).mono fun e fr' H' ⟨e1, e2, e3⟩ => ?_
   subst e1 e2 e3
   exact ⟨.inl rfl, _, _, Sx.res1 (t := 2) (by kernel_rfl) rfl, trivial, Sx.ge_new _ _ _ _, Sx.news1 (Sx.hpL_one _ _) (Sx.SameC.refl _) rfl (fun j _ u hu => leR_bare len rows hv.bare j u hu)⟩
  ·simp [Sx.AV.low]
  ·show g.nx ≤ g.nx; exact Nat.le_refl _
 ·exact (Sx.no_done h).elim
theorem lentS_tch : ∀ args, Sx.Tch (lentS args) := by
 intro args
 unfold lentS
 split
 ·exact (Sx.Tch.rd _ _ _).andThen fun _ => Sx.Tch.newS _ _ _
 ·exact Sx.Tch.no
theorem sr_r0 (x y : Nat) (c0 : decide ((↑x : Int) = (↑y : Int)) = true) : Sx.PureP (Sx.AV.bool true) (call0 64 [.raw true x, .raw true y] (Sx.G.on [true])) := Sx.eqq (q := (True ∧ (decide ((↑x : Int) = (↑y : Int)) = true))) (by kernel_rfl) ⟨trivial, c0⟩
theorem sr_r1 (x y : Nat) (c0 : decide ((↑x : Int) = (↑y : Int)) = false) (c1 : (!Sx.feq (Sx.cn x) (Sx.cn x)) = false) : Sx.PureP (Sx.AV.bool false) (call0 64 [.raw true x, .raw true y] (Sx.G.on [false, false])) := Sx.eqq (q := ((True ∧ (decide ((↑x : Int) = (↑y : Int)) = false)) ∧ ((!Sx.feq (Sx.cn x) (Sx.cn x)) = false))) (by kernel_rfl) ⟨⟨trivial, c0⟩, c1⟩
theorem sr_r2 (x y : Nat) (c0 : decide ((↑x : Int) = (↑y : Int)) = false) (c1 : (!Sx.feq (Sx.cn x) (Sx.cn x)) = true) : Sx.PureP (Sx.AV.sbool !Sx.feq (Sx.cn y) (Sx.cn y)) (call0 64 [.raw true x, .raw true y] (Sx.G.on [false, true])) := Sx.eqq (q := ((True ∧ (decide ((↑x : Int) = (↑y : Int)) = false)) ∧ ((!Sx.feq (Sx.cn x) (Sx.cn x)) = true))) (by kernel_rfl) ⟨⟨trivial, c0⟩, c1⟩
noncomputable def sr_0 (x y : Nat) : Bool := (bif decide ((↑x : Int) = (↑y : Int)) then (true) else (bif Sx.feq (Sx.cn x) (Sx.cn x) then (false) else (!Sx.feq (Sx.cn y) (Sx.cn y))))
noncomputable def srS : List Sx.AV → Sx.M Sx.AV
 | [.raw s0 x, .raw s1 y] => Sx.M.ret (Sx.cmpB (Bool.or s0 s1) (sr_0 x y))
 | args => call0 64 args
theorem srS_ok : ∀ args v g g', srS args g = .done v g' → Sx.CallIs Try.prog 64 args v g g' := by
 intro args v g g' h
 unfold srS at h
 split at h
 ·rename_i s0 x s1 y
  obtain ⟨rfl, rfl⟩ := Sx.ret_done h
  refine Sx.scal call0_ok fun μ cargs ha => ?_
  have ha' : Sx.Reps 0 Sx.MM.none [.raw true x, .raw true y] cargs.toList := by simpa only [Sx.Reps, Sx.Rep] using ha
  cases t0 : decide ((↑x : Int) = (↑y : Int)) with
  | true =>
   exact ⟨_, _, _, ha', sr_r0 x y t0, rfl, fun cv hc => by have := hc g.nx μ; have e0 : sr_0 x y = (true) := (Sx.ct t0).trans (rfl); rw [e0]; simpa only [Sx.Rep, Sx.Reps, Sx.Rep_cmpB] using this⟩
  | false =>
   cases t1 : Sx.feq (Sx.cn x) (Sx.cn x) with
   | true =>
    exact ⟨_, _, _, ha', sr_r1 x y t0 (by rw [t1]; rfl), rfl, fun cv hc => by have := hc g.nx μ; have e0 : sr_0 x y = (false) := (Sx.cf t0).trans ((Sx.ct t1).trans (rfl)); rw [e0]; simpa only [Sx.Rep, Sx.Reps, Sx.Rep_cmpB] using this⟩
   | false =>
    exact ⟨_, _, _, ha', sr_r2 x y t0 (by rw [t1]; rfl), rfl, fun cv hc => by have := hc g.nx μ; have e0 : sr_0 x y = (!Sx.feq (Sx.cn y) (Sx.cn y)) := (Sx.cf t0).trans ((Sx.cf t1).trans (rfl)); rw [e0]; simpa only [Sx.Rep, Sx.Reps, Sx.Rep_cmpB] using this⟩
 ·exact call0_ok _ _ _ _ _ h
theorem srS_tch : ∀ args, Sx.Tch (srS args) := by
 intro args
 unfold srS
 split
 ·exact Sx.Tch.ret _
 ·exact call0_tch _ _
theorem rsr_r0 (x y : Nat) (c0 : (!Sx.feq (Sx.cn x) (Sx.cn x)) = false) : Sx.PureP (Sx.AV.sbool (decide ((↑x : Int) = (↑y : Int)))) (call0 29 [.raw true x, .raw true y] (Sx.G.on [false])) := Sx.eqq (q := (True ∧ ((!Sx.feq (Sx.cn x) (Sx.cn x)) = false))) (by kernel_rfl) ⟨trivial, c0⟩
theorem rsr_r1 (x y : Nat) (c0 : (!Sx.feq (Sx.cn x) (Sx.cn x)) = true) (c1 : (!Sx.feq (Sx.cn y) (Sx.cn y)) = false) : Sx.PureP (Sx.AV.sbool (decide ((↑x : Int) = (↑y : Int)))) (call0 29 [.raw true x, .raw true y] (Sx.G.on [true, false])) := Sx.eqq (q := ((True ∧ ((!Sx.feq (Sx.cn x) (Sx.cn x)) = true)) ∧ ((!Sx.feq (Sx.cn y) (Sx.cn y)) = false))) (by kernel_rfl) ⟨⟨trivial, c0⟩, c1⟩
theorem rsr_r2 (x y : Nat) (c0 : (!Sx.feq (Sx.cn x) (Sx.cn x)) = true) (c1 : (!Sx.feq (Sx.cn y) (Sx.cn y)) = true) : Sx.PureP (Sx.AV.bool true) (call0 29 [.raw true x, .raw true y] (Sx.G.on [true, true])) := Sx.eqq (q := ((True ∧ ((!Sx.feq (Sx.cn x) (Sx.cn x)) = true)) ∧ ((!Sx.feq (Sx.cn y) (Sx.cn y)) = true))) (by kernel_rfl) ⟨⟨trivial, c0⟩, c1⟩
noncomputable def rsr_0 (x y : Nat) : Bool := (bif Sx.feq (Sx.cn x) (Sx.cn x) then (decide ((↑x : Int) = (↑y : Int))) else (bif Sx.feq (Sx.cn y) (Sx.cn y) then (decide ((↑x : Int) = (↑y : Int))) else (true)))
noncomputable def rsrS : List Sx.AV → Sx.M Sx.AV
 | [.raw s0 x, .raw s1 y] => Sx.M.ret (Sx.cmpB (Bool.or s0 s1) (rsr_0 x y))
 | args => call0 29 args
theorem rsrS_ok : ∀ args v g g', rsrS args g = .done v g' → Sx.CallIs Try.prog 29 args v g g' := by
 intro args v g g' h
 unfold rsrS at h
 split at h
 ·rename_i s0 x s1 y
  obtain ⟨rfl, rfl⟩ := Sx.ret_done h
  refine Sx.scal call0_ok fun μ cargs ha => ?_
  have ha' : Sx.Reps 0 Sx.MM.none [.raw true x, .raw true y] cargs.toList := by simpa only [Sx.Reps, Sx.Rep] using ha
  cases t0 : Sx.feq (Sx.cn x) (Sx.cn x) with
  | true =>
   exact ⟨_, _, _, ha', rsr_r0 x y (by rw [t0]; rfl), rfl, fun cv hc => by have := hc g.nx μ; have e0 : rsr_0 x y = (decide ((↑x : Int) = (↑y : Int))) := (Sx.ct t0).trans (rfl); rw [e0]; simpa only [Sx.Rep, Sx.Reps, Sx.Rep_cmpB] using this⟩
  | false =>
   cases t1 : Sx.feq (Sx.cn y) (Sx.cn y) with
   | true =>
    exact ⟨_, _, _, ha', rsr_r1 x y (by rw [t0]; rfl) (by rw [t1]; rfl), rfl, fun cv hc => by have := hc g.nx μ; have e0 : rsr_0 x y = (decide ((↑x : Int) = (↑y : Int))) := (Sx.cf t0).trans ((Sx.ct t1).trans (rfl)); rw [e0]; simpa only [Sx.Rep, Sx.Reps, Sx.Rep_cmpB] using this⟩
   | false =>
    exact ⟨_, _, _, ha', rsr_r2 x y (by rw [t0]; rfl) (by rw [t1]; rfl), rfl, fun cv hc => by have := hc g.nx μ; have e0 : rsr_0 x y = (true) := (Sx.cf t0).trans ((Sx.cf t1).trans (rfl)); rw [e0]; simpa only [Sx.Rep, Sx.Reps, Sx.Rep_cmpB] using this⟩
 ·exact call0_ok _ _ _ _ _ h
theorem rsrS_tch : ∀ args, Sx.Tch (rsrS args) := by
 intro args
 unfold rsrS
 split
 ·exact Sx.Tch.ret _
 ·exact call0_tch _ _
theorem sr_eq (x y : Nat) (hx : x < 18446744073709551616) (hy : y < 18446744073709551616) : sr_0 x y = decide (Sx.cn x = Sx.cn y) := by
 unfold sr_0
 simp only [Sx.feq_selfc hx, Sx.feq_selfc hy]
 have e : decide ((x : Int) = (y : Int)) = decide (x = y) := decide_eq_decide.2 (by omega)
 simp only [e]
 cases h1 : Sx.isnan x <;> cases h2 : Sx.isnan y
 ·rw [Sx.cn_of_not h1, Sx.cn_of_not h2]; by_cases h : x = y <;> simp [h]
 ·rw [Sx.cn_of_not h1, Sx.cn_of_nan h2]
  have n1 : x ≠ Sx.qn := fun h => by rw [h] at h1; exact absurd h1 (by decide)
  have n2 : x ≠ y := fun h => by rw [h, h2] at h1; cases h1
  simp [n1, n2]
 ·rw [Sx.cn_of_nan h1, Sx.cn_of_not h2]
  have n1 : Sx.qn ≠ y := fun h => by rw [← h] at h2; exact absurd h2 (by decide)
  have n2 : x ≠ y := fun h => by rw [h, h2] at h1; cases h1
  simp [n1, n2]
 ·rw [Sx.cn_of_nan h1, Sx.cn_of_nan h2]; simp
noncomputable def srealV (x y : Sx.AV) : Sx.M Sx.AV :=
 match x, y with
 | .flt s a, .flt s' b => Sx.M.ret (Sx.cmpB (s || s') (decide (a = b)))
 | _, _ => Sx.M.no
noncomputable def srealS : List Sx.AV → Sx.M Sx.AV
 | [x, y] => srealV x.fl y.fl
 | _ => Sx.M.no
theorem srealS_ok : ∀ args v g g', srealS args g = .done v g' → Sx.CallIs Try.prog 64 args v g g' := by
 intro args v g g' h
 unfold srealS at h
 split at h
 ·rename_i x y
  generalize hx : x.fl = xf at h
  generalize hy : y.fl = yf at h
  unfold srealV at h
  split at h
  ·rename_i s a s' b
   obtain ⟨rfl, rfl⟩ := Sx.ret_done h
   refine ⟨id, fun hc μ w cargs hg ha => ?_⟩
   simp only [Sx.Reps] at ha
   obtain ⟨c1, _, e1, r1, c2, _, rfl, r2, rfl⟩ := ha
   have r1 := r1.fl
   have r2 := r2.fl
   rw [hx] at r1
   rw [hy] at r2
   simp only [Sx.Rep] at r1 r2
   obtain ⟨b1, rfl, q1, l1⟩ := r1
   obtain ⟨b2, rfl, q2, l2⟩ := r2
   have hS := srS_ok [.raw true b1, .raw true b2] (Sx.cmpB true (sr_0 b1 b2)) g g rfl
   refine (hS.2 hc μ w cargs hg (by rw [e1]; simp only [Sx.Reps]; exact ⟨_, _, rfl, by simp only [Sx.Rep]; exact ⟨trivial, l1⟩, _, _, rfl, by simp only [Sx.Rep]; exact ⟨trivial, l2⟩, rfl⟩)).mono fun cv w' hA => ?_
   obtain ⟨μ', k1, k2, k3⟩ := hA
   refine ⟨μ', ?_, k2, k3⟩
   rw [sr_eq _ _ l1 l2, q1, q2] at k1
   rw [Sx.Rep_cmpB] at k1 ⊢
   exact k1
  ·exact (Sx.no_done h).elim
 ·exact (Sx.no_done h).elim
theorem srealS_tch : ∀ args, Sx.Tch (srealS args) := by
 intro args
 unfold srealS
 split
 ·unfold srealV
  split
  ·exact Sx.Tch.ret _
  ·exact Sx.Tch.no
 ·exact Sx.Tch.no
theorem rsr_eq (x y : Nat) (hx : x < 18446744073709551616) (hy : y < 18446744073709551616) : rsr_0 x y = decide (Sx.cn x = Sx.cn y) := by
 unfold rsr_0
 simp only [Sx.feq_selfc hx, Sx.feq_selfc hy]
 have e : decide ((x : Int) = (y : Int)) = decide (x = y) := decide_eq_decide.2 (by omega)
 simp only [e]
 cases h1 : Sx.isnan x <;> cases h2 : Sx.isnan y
 ·rw [Sx.cn_of_not h1, Sx.cn_of_not h2]; by_cases h : x = y <;> simp [h]
 ·rw [Sx.cn_of_not h1, Sx.cn_of_nan h2]
  have n1 : x ≠ Sx.qn := fun h => by rw [h] at h1; exact absurd h1 (by decide)
  have n2 : x ≠ y := fun h => by rw [h, h2] at h1; cases h1
  simp [n1, n2]
 ·rw [Sx.cn_of_nan h1, Sx.cn_of_not h2]
  have n1 : Sx.qn ≠ y := fun h => by rw [← h] at h2; exact absurd h2 (by decide)
  have n2 : x ≠ y := fun h => by rw [h, h2] at h1; cases h1
  simp [n1, n2]
 ·rw [Sx.cn_of_nan h1, Sx.cn_of_nan h2]; simp
noncomputable def rrealV (x y : Sx.AV) : Sx.M Sx.AV :=
 match x, y with
 | .flt s a, .flt s' b => Sx.M.ret (Sx.cmpB (s || s') (decide (a = b)))
 | _, _ => Sx.M.no
noncomputable def rrealS : List Sx.AV → Sx.M Sx.AV
 | [x, y] => rrealV x.fl y.fl
 | _ => Sx.M.no
theorem rrealS_ok : ∀ args v g g', rrealS args g = .done v g' → Sx.CallIs Try.prog 29 args v g g' := by
 intro args v g g' h
 unfold rrealS at h
 split at h
 ·rename_i x y
  generalize hx : x.fl = xf at h
  generalize hy : y.fl = yf at h
  unfold rrealV at h
  split at h
  ·rename_i s a s' b
   obtain ⟨rfl, rfl⟩ := Sx.ret_done h
   refine ⟨id, fun hc μ w cargs hg ha => ?_⟩
   simp only [Sx.Reps] at ha
   obtain ⟨c1, _, e1, r1, c2, _, rfl, r2, rfl⟩ := ha
   have r1 := r1.fl
   have r2 := r2.fl
   rw [hx] at r1
   rw [hy] at r2
   simp only [Sx.Rep] at r1 r2
   obtain ⟨b1, rfl, q1, l1⟩ := r1
   obtain ⟨b2, rfl, q2, l2⟩ := r2
   have hS := rsrS_ok [.raw true b1, .raw true b2] (Sx.cmpB true (rsr_0 b1 b2)) g g rfl
   refine (hS.2 hc μ w cargs hg (by rw [e1]; simp only [Sx.Reps]; exact ⟨_, _, rfl, by simp only [Sx.Rep]; exact ⟨trivial, l1⟩, _, _, rfl, by simp only [Sx.Rep]; exact ⟨trivial, l2⟩, rfl⟩)).mono fun cv w' hA => ?_
   obtain ⟨μ', k1, k2, k3⟩ := hA
   refine ⟨μ', ?_, k2, k3⟩
   rw [rsr_eq _ _ l1 l2, q1, q2] at k1
   rw [Sx.Rep_cmpB] at k1 ⊢
   exact k1
  ·exact (Sx.no_done h).elim
 ·exact (Sx.no_done h).elim
theorem rrealS_tch : ∀ args, Sx.Tch (rrealS args) := by
 intro args
 unfold rrealS
 split
 ·unfold rrealV
  split
  ·exact Sx.Tch.ret _
  ·exact Sx.Tch.no
 ·exact Sx.Tch.no
noncomputable def gam1 : Sx.Known := Sx.kc 54 Sx.toBits (Sx.kc 60 Sx.ofBits (Sx.kc 64 srealS (Sx.kc 29 rrealS (Sx.kc 10 numbersS (Sx.kc 11 lentS (Sx.kn))))))
theorem gam1_ok : Sx.KnownOk Try.prog gam1 := Sx.kc_ok ((Sx.toBits_is Try.prog).callIs Try.func54 (by kernel_rfl) (by kernel_rfl) (by kernel_rfl) (by kernel_rfl)) (Sx.kc_ok ((Sx.ofBits_is Try.prog).callIs Try.func60 (by kernel_rfl) (by kernel_rfl) (by kernel_rfl) (by kernel_rfl)) (Sx.kc_ok srealS_ok (Sx.kc_ok rrealS_ok (Sx.kc_ok numbersS_ok (Sx.kc_ok lentS_ok (Sx.kn_ok))))))
theorem gam1_tch : Sx.KnownT gam1 := Sx.kc_tch Sx.Tch.toBits (Sx.kc_tch Sx.Tch.ofBits (Sx.kc_tch srealS_tch (Sx.kc_tch rrealS_tch (Sx.kc_tch numbersS_tch (Sx.kc_tch lentS_tch (Sx.kn_tch))))))
noncomputable def call1 : Sx.Calls' := Sx.runN Try.prog gam1 (Sx.regionC Try.prog) 1000 50
theorem call1_ok : Sx.CallOk Try.prog call1 := Sx.engineC gam1_ok gam1_tch (by kernel_rfl) (by kernel_rfl) 1000 50
theorem call1_tch : Sx.CallT call1 := Sx.runA_tch gam1_tch (fun _ _ _ h => by cases h) (fun call hc n l fr => Sx.regionC_tch hc n l fr) 50
theorem call1_reg (n : Nat) : Sx.RegionOk Try.prog (Sx.regionC Try.prog call1 n) n := Sx.runN_regionC gam1_ok gam1_tch (by kernel_rfl) (by kernel_rfl) 1000 50 n
noncomputable abbrev piececall1 (f : Func) (c : Code) (fr : Sx.Fr) (H : Sx.T Sx.ABk) (K : Nat) (path : List Bool) : Sx.Res (Sx.Ex × Sx.Fr) :=
 Sx.codeA Try.prog call1 (Sx.regionC Try.prog call1 f.ntmps) Sx.noLoops f.ntmps 1000 c fr ⟨H, K, [], path, True⟩

theorem saA_r0 (la lb : Nat) (ra ia rb ib : Nat → Nat) : Sx.PieceN 2 (Sx.Ex.normal) [(0, Sx.AV.slc true false (Sx.AA.mk false (0 : Nat) (0 : Nat) (0 : Nat)) la), (1, Sx.AV.slc true false (Sx.AA.mk false (1 : Nat) (0 : Nat) (0 : Nat)) lb)] [(0, Sx.ABk.cells false (1 : Nat) la (Sx.Cont.fn fun j => [Sx.AV.cpx true (ra j) (ia j)])), (1, Sx.ABk.cells false (1 : Nat) lb (Sx.Cont.fn fun j => [Sx.AV.cpx true (rb j) (ib j)]))] (piececall1 Try.f50 (Sx.nav [0] (Sx.bodyOf Try.f50)) (Sx.frameOf [Sx.slcV 0 la, Sx.slcV 1 lb] 0 .e) (Sx.hpL [(0, .cells false 1 la (.fn fun j => [.cpx true (ra j) (ia j)])), (1, .cells false 1 lb (.fn fun j => [.cpx true (rb j) (ib j)]))]) 2 []) := Sx.eqn (q := True) (by kernel_rfl) trivial
theorem saA (B : Nat) (hB : B ≤ 2) (la lb : Nat) (ra ia rb ib : Nat → Nat) : Sx.GoesB Try.prog (Sx.nav [0] (Sx.bodyOf Try.f50)) Try.f50.ntmps B 2 2 (Sx.frameOf [Sx.slcV 0 la, Sx.slcV 1 lb] 0 .e) (Sx.hpL [(0, .cells false 1 la (.fn fun j => [.cpx true (ra j) (ia j)])), (1, .cells false 1 lb (.fn fun j => [.cpx true (rb j) (ib j)]))]) fun e fr' H' => (e = Sx.Ex.normal ∧ fr' = Sx.frL [(0, Sx.AV.slc true false (Sx.AA.mk false (0 : Nat) (0 : Nat) (0 : Nat)) la), (1, Sx.AV.slc true false (Sx.AA.mk false (1 : Nat) (0 : Nat) (0 : Nat)) lb)] ∧ H' = Sx.hpL [(0, Sx.ABk.cells false (1 : Nat) la (Sx.Cont.fn fun j => [Sx.AV.cpx true (ra j) (ia j)])), (1, Sx.ABk.cells false (1 : Nat) lb (Sx.Cont.fn fun j => [Sx.AV.cpx true (rb j) (ib j)]))]) := by
 exact (Sx.GoesB.runN call1_ok (call1_reg _) (Sx.LoopsIn.none _ _ _) (saA_r0 la lb ra ia rb ib) hB).mono fun e fr' H' h => h
theorem saC_r0 (la lb : Nat) (ra ia rb ib : Nat → Nat) (c0 : (!decide ((↑la : Int) = (↑lb : Int))) = false) : Sx.PieceN 2 (Sx.Ex.normal) [(0, Sx.AV.slc true false (Sx.AA.mk false (0 : Nat) (0 : Nat) (0 : Nat)) la), (1, Sx.AV.slc true false (Sx.AA.mk false (1 : Nat) (0 : Nat) (0 : Nat)) lb)] [(0, Sx.ABk.cells false (1 : Nat) la (Sx.Cont.fn fun j => [Sx.AV.cpx true (ra j) (ia j)])), (1, Sx.ABk.cells false (1 : Nat) lb (Sx.Cont.fn fun j => [Sx.AV.cpx true (rb j) (ib j)]))] (piececall1 Try.f50 (Sx.nav [1,0] (Sx.bodyOf Try.f50)) (Sx.frL [(0, Sx.slcV 0 la), (1, Sx.slcV 1 lb)]) (Sx.hpL [(0, .cells false 1 la (.fn fun j => [.cpx true (ra j) (ia j)])), (1, .cells false 1 lb (.fn fun j => [.cpx true (rb j) (ib j)]))]) 2 [false]) := Sx.eqn (q := (True ∧ ((!decide ((↑la : Int) = (↑lb : Int))) = false))) (by kernel_rfl) ⟨trivial, c0⟩
theorem saC_r1 (la lb : Nat) (ra ia rb ib : Nat → Nat) (c0 : (!decide ((↑la : Int) = (↑lb : Int))) = true) : Sx.PieceN 2 (Sx.Ex.ret) [(0, Sx.AV.slc true false (Sx.AA.mk false (0 : Nat) (0 : Nat) (0 : Nat)) la), (1, Sx.AV.slc true false (Sx.AA.mk false (1 : Nat) (0 : Nat) (0 : Nat)) lb), (4, Sx.AV.bool false)] [(0, Sx.ABk.cells false (1 : Nat) la (Sx.Cont.fn fun j => [Sx.AV.cpx true (ra j) (ia j)])), (1, Sx.ABk.cells false (1 : Nat) lb (Sx.Cont.fn fun j => [Sx.AV.cpx true (rb j) (ib j)]))] (piececall1 Try.f50 (Sx.nav [1,0] (Sx.bodyOf Try.f50)) (Sx.frL [(0, Sx.slcV 0 la), (1, Sx.slcV 1 lb)]) (Sx.hpL [(0, .cells false 1 la (.fn fun j => [.cpx true (ra j) (ia j)])), (1, .cells false 1 lb (.fn fun j => [.cpx true (rb j) (ib j)]))]) 2 [true]) := Sx.eqn (q := (True ∧ ((!decide ((↑la : Int) = (↑lb : Int))) = true))) (by kernel_rfl) ⟨trivial, c0⟩
theorem saC (B : Nat) (hB : B ≤ 2) (la lb : Nat) (ra ia rb ib : Nat → Nat) : Sx.GoesB Try.prog (Sx.nav [1,0] (Sx.bodyOf Try.f50)) Try.f50.ntmps B 2 2 (Sx.frL [(0, Sx.slcV 0 la), (1, Sx.slcV 1 lb)]) (Sx.hpL [(0, .cells false 1 la (.fn fun j => [.cpx true (ra j) (ia j)])), (1, .cells false 1 lb (.fn fun j => [.cpx true (rb j) (ib j)]))]) fun e fr' H' => (cond (decide ((↑la : Int) = (↑lb : Int))) (e = Sx.Ex.normal ∧ fr' = Sx.frL [(0, Sx.AV.slc true false (Sx.AA.mk false (0 : Nat) (0 : Nat) (0 : Nat)) la), (1, Sx.AV.slc true false (Sx.AA.mk false (1 : Nat) (0 : Nat) (0 : Nat)) lb)] ∧ H' = Sx.hpL [(0, Sx.ABk.cells false (1 : Nat) la (Sx.Cont.fn fun j => [Sx.AV.cpx true (ra j) (ia j)])), (1, Sx.ABk.cells false (1 : Nat) lb (Sx.Cont.fn fun j => [Sx.AV.cpx true (rb j) (ib j)]))]) (e = Sx.Ex.ret ∧ fr' = Sx.frL [(0, Sx.AV.slc true false (Sx.AA.mk false (0 : Nat) (0 : Nat) (0 : Nat)) la), (1, Sx.AV.slc true false (Sx.AA.mk false (1 : Nat) (0 : Nat) (0 : Nat)) lb), (4, Sx.AV.bool false)] ∧ H' = Sx.hpL [(0, Sx.ABk.cells false (1 : Nat) la (Sx.Cont.fn fun j => [Sx.AV.cpx true (ra j) (ia j)])), (1, Sx.ABk.cells false (1 : Nat) lb (Sx.Cont.fn fun j => [Sx.AV.cpx true (rb j) (ib j)]))])) := by
 cases t0 : decide ((↑la : Int) = (↑lb : Int)) with
 | true =>
  exact (Sx.GoesB.runN call1_ok (call1_reg _) (Sx.LoopsIn.none _ _ _) (saC_r0 la lb ra ia rb ib (by rw [t0]; rfl)) hB).mono fun e fr' H' h => by simp only [t0, cond_true, cond_false]; exact h
 | false =>
  exact (Sx.GoesB.runN call1_ok (call1_reg _) (Sx.LoopsIn.none _ _ _) (saC_r1 la lb ra ia rb ib (by rw [t0]; rfl)) hB).mono fun e fr' H' h => by simp only [t0, cond_true, cond_false]; exact h
theorem saD_r0 (la lb : Nat) (ra ia rb ib : Nat → Nat) : Sx.PieceN 2 (Sx.Ex.normal) [(0, Sx.AV.slc true false (Sx.AA.mk false (0 : Nat) (0 : Nat) (0 : Nat)) la), (1, Sx.AV.slc true false (Sx.AA.mk false (1 : Nat) (0 : Nat) (0 : Nat)) lb), (5, Sx.AV.int false IntKind.i64 (0 : Int))] [(0, Sx.ABk.cells false (1 : Nat) la (Sx.Cont.fn fun j => [Sx.AV.cpx true (ra j) (ia j)])), (1, Sx.ABk.cells false (1 : Nat) lb (Sx.Cont.fn fun j => [Sx.AV.cpx true (rb j) (ib j)]))] (piececall1 Try.f50 (Sx.nav [1,1,0,0] (Sx.bodyOf Try.f50)) (Sx.frL [(0, Sx.slcV 0 la), (1, Sx.slcV 1 lb)]) (Sx.hpL [(0, .cells false 1 la (.fn fun j => [.cpx true (ra j) (ia j)])), (1, .cells false 1 lb (.fn fun j => [.cpx true (rb j) (ib j)]))]) 2 []) := Sx.eqn (q := True) (by kernel_rfl) trivial
theorem saD (B : Nat) (hB : B ≤ 2) (la lb : Nat) (ra ia rb ib : Nat → Nat) : Sx.GoesB Try.prog (Sx.nav [1,1,0,0] (Sx.bodyOf Try.f50)) Try.f50.ntmps B 2 2 (Sx.frL [(0, Sx.slcV 0 la), (1, Sx.slcV 1 lb)]) (Sx.hpL [(0, .cells false 1 la (.fn fun j => [.cpx true (ra j) (ia j)])), (1, .cells false 1 lb (.fn fun j => [.cpx true (rb j) (ib j)]))]) fun e fr' H' => (e = Sx.Ex.normal ∧ fr' = Sx.frL [(0, Sx.AV.slc true false (Sx.AA.mk false (0 : Nat) (0 : Nat) (0 : Nat)) la), (1, Sx.AV.slc true false (Sx.AA.mk false (1 : Nat) (0 : Nat) (0 : Nat)) lb), (5, Sx.AV.int false IntKind.i64 (0 : Int))] ∧ H' = Sx.hpL [(0, Sx.ABk.cells false (1 : Nat) la (Sx.Cont.fn fun j => [Sx.AV.cpx true (ra j) (ia j)])), (1, Sx.ABk.cells false (1 : Nat) lb (Sx.Cont.fn fun j => [Sx.AV.cpx true (rb j) (ib j)]))]) := by
 exact (Sx.GoesB.runN call1_ok (call1_reg _) (Sx.LoopsIn.none _ _ _) (saD_r0 la lb ra ia rb ib) hB).mono fun e fr' H' h => h
theorem saB_r0 (la lb i : Nat) (ra ia rb ib : Nat → Nat) (c0 : decide ((↑i : Int) < (↑la : Int)) = true) (c1 : (0 : Int) ≤ (↑i : Int)) (c2 : (↑i : Int) < (↑la : Int)) (c3 : (0 : Nat) + i < la) (c4 : (↑i : Int) < (↑lb : Int)) (c5 : (0 : Nat) + i < lb) (c6 : decide (ra ((0 : Nat) + i) = rb ((0 : Nat) + i)) = true) (c7 : (!decide (ia ((0 : Nat) + i) = ib ((0 : Nat) + i))) = false) (c8 : (-9223372036854775808 : Int) ≤ (↑i : Int) + (1 : Int)) (c9 : (↑i : Int) + (1 : Int) ≤ (9223372036854775807 : Int)) : Sx.PieceN 2 (Sx.Ex.normal) [(0, Sx.AV.slc true false (Sx.AA.mk false (0 : Nat) (0 : Nat) (0 : Nat)) la), (1, Sx.AV.slc true false (Sx.AA.mk false (1 : Nat) (0 : Nat) (0 : Nat)) lb), (5, Sx.AV.int true IntKind.i64 ((↑i : Int) + (1 : Int)))] [(0, Sx.ABk.cells false (1 : Nat) la (Sx.Cont.fn fun j => [Sx.AV.cpx true (ra j) (ia j)])), (1, Sx.ABk.cells false (1 : Nat) lb (Sx.Cont.fn fun j => [Sx.AV.cpx true (rb j) (ib j)]))] (piececall1 Try.f50 (Sx.nav [1,1,0,1,0,0] (Sx.bodyOf Try.f50)) (Sx.frL [(0, Sx.slcV 0 la), (1, Sx.slcV 1 lb), (5, .int true .i64 i)]) (Sx.hpL [(0, .cells false 1 la (.fn fun j => [.cpx true (ra j) (ia j)])), (1, .cells false 1 lb (.fn fun j => [.cpx true (rb j) (ib j)]))]) 2 [true, true, false]) := Sx.eqn (q := ((((((((True ∧ (decide ((↑i : Int) < (↑la : Int)) = true)) ∧ (((0 : Int) ≤ (↑i : Int)) ∧ ((↑i : Int) < (↑la : Int)))) ∧ ((0 : Nat) + i < la)) ∧ (((0 : Int) ≤ (↑i : Int)) ∧ ((↑i : Int) < (↑lb : Int)))) ∧ ((0 : Nat) + i < lb)) ∧ (decide (ra ((0 : Nat) + i) = rb ((0 : Nat) + i)) = true)) ∧ ((!decide (ia ((0 : Nat) + i) = ib ((0 : Nat) + i))) = false)) ∧ (((-9223372036854775808 : Int) ≤ (↑i : Int) + (1 : Int)) ∧ ((↑i : Int) + (1 : Int) ≤ (9223372036854775807 : Int))))) (by kernel_rfl) ⟨⟨⟨⟨⟨⟨⟨⟨trivial, c0⟩, ⟨c1, c2⟩⟩, c3⟩, ⟨c1, c4⟩⟩, c5⟩, c6⟩, c7⟩, ⟨c8, c9⟩⟩
theorem saB_r1 (la lb i : Nat) (ra ia rb ib : Nat → Nat) (c0 : decide ((↑i : Int) < (↑la : Int)) = true) (c1 : (0 : Int) ≤ (↑i : Int)) (c2 : (↑i : Int) < (↑la : Int)) (c3 : (0 : Nat) + i < la) (c4 : (↑i : Int) < (↑lb : Int)) (c5 : (0 : Nat) + i < lb) (c6 : decide (ra ((0 : Nat) + i) = rb ((0 : Nat) + i)) = true) (c7 : (!decide (ia ((0 : Nat) + i) = ib ((0 : Nat) + i))) = true) : Sx.PieceN 2 (Sx.Ex.ret) [(0, Sx.AV.slc true false (Sx.AA.mk false (0 : Nat) (0 : Nat) (0 : Nat)) la), (1, Sx.AV.slc true false (Sx.AA.mk false (1 : Nat) (0 : Nat) (0 : Nat)) lb), (4, Sx.AV.bool false), (5, Sx.AV.int true IntKind.i64 (↑i : Int))] [(0, Sx.ABk.cells false (1 : Nat) la (Sx.Cont.fn fun j => [Sx.AV.cpx true (ra j) (ia j)])), (1, Sx.ABk.cells false (1 : Nat) lb (Sx.Cont.fn fun j => [Sx.AV.cpx true (rb j) (ib j)]))] (piececall1 Try.f50 (Sx.nav [1,1,0,1,0,0] (Sx.bodyOf Try.f50)) (Sx.frL [(0, Sx.slcV 0 la), (1, Sx.slcV 1 lb), (5, .int true .i64 i)]) (Sx.hpL [(0, .cells false 1 la (.fn fun j => [.cpx true (ra j) (ia j)])), (1, .cells false 1 lb (.fn fun j => [.cpx true (rb j) (ib j)]))]) 2 [true, true, true]) := Sx.eqn (q := (((((((True ∧ (decide ((↑i : Int) < (↑la : Int)) = true)) ∧ (((0 : Int) ≤ (↑i : Int)) ∧ ((↑i : Int) < (↑la : Int)))) ∧ ((0 : Nat) + i < la)) ∧ (((0 : Int) ≤ (↑i : Int)) ∧ ((↑i : Int) < (↑lb : Int)))) ∧ ((0 : Nat) + i < lb)) ∧ (decide (ra ((0 : Nat) + i) = rb ((0 : Nat) + i)) = true)) ∧ ((!decide (ia ((0 : Nat) + i) = ib ((0 : Nat) + i))) = true))) (by kernel_rfl) ⟨⟨⟨⟨⟨⟨⟨trivial, c0⟩, ⟨c1, c2⟩⟩, c3⟩, ⟨c1, c4⟩⟩, c5⟩, c6⟩, c7⟩
theorem saB_r2 (la lb i : Nat) (ra ia rb ib : Nat → Nat) (c0 : decide ((↑i : Int) < (↑la : Int)) = true) (c1 : (0 : Int) ≤ (↑i : Int)) (c2 : (↑i : Int) < (↑la : Int)) (c3 : (0 : Nat) + i < la) (c4 : (↑i : Int) < (↑lb : Int)) (c5 : (0 : Nat) + i < lb) (c6 : decide (ra ((0 : Nat) + i) = rb ((0 : Nat) + i)) = false) : Sx.PieceN 2 (Sx.Ex.ret) [(0, Sx.AV.slc true false (Sx.AA.mk false (0 : Nat) (0 : Nat) (0 : Nat)) la), (1, Sx.AV.slc true false (Sx.AA.mk false (1 : Nat) (0 : Nat) (0 : Nat)) lb), (4, Sx.AV.bool false), (5, Sx.AV.int true IntKind.i64 (↑i : Int))] [(0, Sx.ABk.cells false (1 : Nat) la (Sx.Cont.fn fun j => [Sx.AV.cpx true (ra j) (ia j)])), (1, Sx.ABk.cells false (1 : Nat) lb (Sx.Cont.fn fun j => [Sx.AV.cpx true (rb j) (ib j)]))] (piececall1 Try.f50 (Sx.nav [1,1,0,1,0,0] (Sx.bodyOf Try.f50)) (Sx.frL [(0, Sx.slcV 0 la), (1, Sx.slcV 1 lb), (5, .int true .i64 i)]) (Sx.hpL [(0, .cells false 1 la (.fn fun j => [.cpx true (ra j) (ia j)])), (1, .cells false 1 lb (.fn fun j => [.cpx true (rb j) (ib j)]))]) 2 [true, false]) := Sx.eqn (q := ((((((True ∧ (decide ((↑i : Int) < (↑la : Int)) = true)) ∧ (((0 : Int) ≤ (↑i : Int)) ∧ ((↑i : Int) < (↑la : Int)))) ∧ ((0 : Nat) + i < la)) ∧ (((0 : Int) ≤ (↑i : Int)) ∧ ((↑i : Int) < (↑lb : Int)))) ∧ ((0 : Nat) + i < lb)) ∧ (decide (ra ((0 : Nat) + i) = rb ((0 : Nat) + i)) = false))) (by kernel_rfl) ⟨⟨⟨⟨⟨⟨trivial, c0⟩, ⟨c1, c2⟩⟩, c3⟩, ⟨c1, c4⟩⟩, c5⟩, c6⟩
theorem saB_r3 (la lb i : Nat) (ra ia rb ib : Nat → Nat) (c0 : decide ((↑i : Int) < (↑la : Int)) = false) : Sx.PieceN 2 (Sx.Ex.exit (0 : Nat)) [(0, Sx.AV.slc true false (Sx.AA.mk false (0 : Nat) (0 : Nat) (0 : Nat)) la), (1, Sx.AV.slc true false (Sx.AA.mk false (1 : Nat) (0 : Nat) (0 : Nat)) lb), (5, Sx.AV.int true IntKind.i64 (↑i : Int))] [(0, Sx.ABk.cells false (1 : Nat) la (Sx.Cont.fn fun j => [Sx.AV.cpx true (ra j) (ia j)])), (1, Sx.ABk.cells false (1 : Nat) lb (Sx.Cont.fn fun j => [Sx.AV.cpx true (rb j) (ib j)]))] (piececall1 Try.f50 (Sx.nav [1,1,0,1,0,0] (Sx.bodyOf Try.f50)) (Sx.frL [(0, Sx.slcV 0 la), (1, Sx.slcV 1 lb), (5, .int true .i64 i)]) (Sx.hpL [(0, .cells false 1 la (.fn fun j => [.cpx true (ra j) (ia j)])), (1, .cells false 1 lb (.fn fun j => [.cpx true (rb j) (ib j)]))]) 2 [false]) := Sx.eqn (q := (True ∧ (decide ((↑i : Int) < (↑la : Int)) = false))) (by kernel_rfl) ⟨trivial, c0⟩
theorem saB (B : Nat) (hB : B ≤ 2) (la lb i : Nat) (ra ia rb ib : Nat → Nat) (x0 : ((decide ((↑i : Int) < (↑la : Int))) = true → ((↑i : Int) < (↑lb : Int)))) (x1 : ((decide ((↑i : Int) < (↑la : Int))) = true → ((0 : Nat) + i < lb))) (x2 : ((decide ((↑i : Int) < (↑la : Int))) = true → ((decide (ra ((0 : Nat) + i) = rb ((0 : Nat) + i))) = true → ((decide (ia ((0 : Nat) + i) = ib ((0 : Nat) + i))) = true → ((↑i : Int) + (1 : Int) ≤ (9223372036854775807 : Int)))))) : Sx.GoesB Try.prog (Sx.nav [1,1,0,1,0,0] (Sx.bodyOf Try.f50)) Try.f50.ntmps B 2 2 (Sx.frL [(0, Sx.slcV 0 la), (1, Sx.slcV 1 lb), (5, .int true .i64 i)]) (Sx.hpL [(0, .cells false 1 la (.fn fun j => [.cpx true (ra j) (ia j)])), (1, .cells false 1 lb (.fn fun j => [.cpx true (rb j) (ib j)]))]) fun e fr' H' => (cond (decide ((↑i : Int) < (↑la : Int))) (cond (decide (ra ((0 : Nat) + i) = rb ((0 : Nat) + i))) (cond (decide (ia ((0 : Nat) + i) = ib ((0 : Nat) + i))) (e = Sx.Ex.normal ∧ fr' = Sx.frL [(0, Sx.AV.slc true false (Sx.AA.mk false (0 : Nat) (0 : Nat) (0 : Nat)) la), (1, Sx.AV.slc true false (Sx.AA.mk false (1 : Nat) (0 : Nat) (0 : Nat)) lb), (5, Sx.AV.int true IntKind.i64 ((↑i : Int) + (1 : Int)))] ∧ H' = Sx.hpL [(0, Sx.ABk.cells false (1 : Nat) la (Sx.Cont.fn fun j => [Sx.AV.cpx true (ra j) (ia j)])), (1, Sx.ABk.cells false (1 : Nat) lb (Sx.Cont.fn fun j => [Sx.AV.cpx true (rb j) (ib j)]))]) (e = Sx.Ex.ret ∧ fr' = Sx.frL [(0, Sx.AV.slc true false (Sx.AA.mk false (0 : Nat) (0 : Nat) (0 : Nat)) la), (1, Sx.AV.slc true false (Sx.AA.mk false (1 : Nat) (0 : Nat) (0 : Nat)) lb), (4, Sx.AV.bool false), (5, Sx.AV.int true IntKind.i64 (↑i : Int))] ∧ H' = Sx.hpL [(0, Sx.ABk.cells false (1 : Nat) la (Sx.Cont.fn fun j => [Sx.AV.cpx true (ra j) (ia j)])), (1, Sx.ABk.cells false (1 : Nat) lb (Sx.Cont.fn fun j => [Sx.AV.cpx true (rb j) (ib j)]))])) (e = Sx.Ex.ret ∧ fr' = Sx.frL [(0, Sx.AV.slc true false (Sx.AA.mk false (0 : Nat) (0 : Nat) (0 : Nat)) la), (1, Sx.AV.slc true false (Sx.AA.mk false (1 : Nat) (0 : Nat) (0 : Nat)) lb), (4, Sx.AV.bool false), (5, Sx.AV.int true IntKind.i64 (↑i : Int))] ∧ H' = Sx.hpL [(0, Sx.ABk.cells false (1 : Nat) la (Sx.Cont.fn fun j => [Sx.AV.cpx true (ra j) (ia j)])), (1, Sx.ABk.cells false (1 : Nat) lb (Sx.Cont.fn fun j => [Sx.AV.cpx true (rb j) (ib j)]))])) (e = Sx.Ex.exit (0 : Nat) ∧ fr' = Sx.frL [(0, Sx.AV.slc true false (Sx.AA.mk false (0 : Nat) (0 : Nat) (0 : Nat)) la), (1, Sx.AV.slc true false (Sx.AA.mk false (1 : Nat) (0 : Nat) (0 : Nat)) lb), (5, Sx.AV.int true IntKind.i64 (↑i : Int))] ∧ H' = Sx.hpL [(0, Sx.ABk.cells false (1 : Nat) la (Sx.Cont.fn fun j => [Sx.AV.cpx true (ra j) (ia j)])), (1, Sx.ABk.cells false (1 : Nat) lb (Sx.Cont.fn fun j => [Sx.AV.cpx true (rb j) (ib j)]))])) := by
 cases t0 : decide ((↑i : Int) < (↑la : Int)) with
 | true =>
  cases t1 : decide (ra ((0 : Nat) + i) = rb ((0 : Nat) + i)) with
  | true =>
   cases t2 : decide (ia ((0 : Nat) + i) = ib ((0 : Nat) + i)) with
   | true =>
    exact (Sx.GoesB.runN call1_ok (call1_reg _) (Sx.LoopsIn.none _ _ _) (saB_r0 la lb i ra ia rb ib t0 (by first | decide | ((try simp only [decide_eq_true_eq, decide_eq_false_iff_not] at t0 t1 t2); (try simp only [List.length_take, List.length_drop]); omega)) (by first | decide | ((try simp only [decide_eq_true_eq, decide_eq_false_iff_not] at t0 t1 t2); (try simp only [List.length_take, List.length_drop]); omega)) (by first | decide | ((try simp only [decide_eq_true_eq, decide_eq_false_iff_not] at t0 t1 t2); (try simp only [List.length_take, List.length_drop]); omega)) (x0 t0) (x1 t0) t1 (by rw [t2]; rfl) (by first | decide | ((try simp only [decide_eq_true_eq, decide_eq_false_iff_not] at t0 t1 t2); (try simp only [List.length_take, List.length_drop]); omega)) (x2 t0 t1 t2)) hB).mono fun e fr' H' h => by simp only [t0, t1, t2, cond_true, cond_false]; exact h
   | false =>
    exact (Sx.GoesB.runN call1_ok (call1_reg _) (Sx.LoopsIn.none _ _ _) (saB_r1 la lb i ra ia rb ib t0 (by first | decide | ((try simp only [decide_eq_true_eq, decide_eq_false_iff_not] at t0 t1 t2); (try simp only [List.length_take, List.length_drop]); omega)) (by first | decide | ((try simp only [decide_eq_true_eq, decide_eq_false_iff_not] at t0 t1 t2); (try simp only [List.length_take, List.length_drop]); omega)) (by first | decide | ((try simp only [decide_eq_true_eq, decide_eq_false_iff_not] at t0 t1 t2); (try simp only [List.length_take, List.length_drop]); omega)) (x0 t0) (x1 t0) t1 (by rw [t2]; rfl)) hB).mono fun e fr' H' h => by simp only [t0, t1, t2, cond_true, cond_false]; exact h
  | false =>
   exact (Sx.GoesB.runN call1_ok (call1_reg _) (Sx.LoopsIn.none _ _ _) (saB_r2 la lb i ra ia rb ib t0 (by first | decide | ((try simp only [decide_eq_true_eq, decide_eq_false_iff_not] at t0 t1); (try simp only [List.length_take, List.length_drop]); omega)) (by first | decide | ((try simp only [decide_eq_true_eq, decide_eq_false_iff_not] at t0 t1); (try simp only [List.length_take, List.length_drop]); omega)) (by first | decide | ((try simp only [decide_eq_true_eq, decide_eq_false_iff_not] at t0 t1); (try simp only [List.length_take, List.length_drop]); omega)) (x0 t0) (x1 t0) t1) hB).mono fun e fr' H' h => by simp only [t0, t1, cond_true, cond_false]; exact h
 | false =>
  exact (Sx.GoesB.runN call1_ok (call1_reg _) (Sx.LoopsIn.none _ _ _) (saB_r3 la lb i ra ia rb ib t0) hB).mono fun e fr' H' h => by simp only [t0, cond_true, cond_false]; exact h
theorem saZ_r0  : Sx.PieceN 2 (Sx.Ex.ret) [(4, Sx.AV.bool true)] [] (piececall1 Try.f50 (Sx.nav [1,1,1] (Sx.bodyOf Try.f50)) (Sx.frL []) (Sx.hpL []) 2 []) := Sx.eqn (q := True) (by kernel_rfl) trivial
theorem saZ (B : Nat) (hB : B ≤ 2)  : Sx.GoesB Try.prog (Sx.nav [1,1,1] (Sx.bodyOf Try.f50)) Try.f50.ntmps B 2 2 (Sx.frL []) (Sx.hpL []) fun e fr' H' => (e = Sx.Ex.ret ∧ fr' = Sx.frL [(4, Sx.AV.bool true)] ∧ H' = Sx.hpL []) := by
 exact (Sx.GoesB.runN call1_ok (call1_reg _) (Sx.LoopsIn.none _ _ _) (saZ_r0 ) hB).mono fun e fr' H' h => h
def saI (la lb : Nat) (ra ia rb ib : Nat → Nat) (k : Nat) (fr : Sx.Fr) (H : Sx.T Sx.ABk) : Prop :=
 ∃ i : Nat, k = la - i ∧ i ≤ la ∧ (∀ j, j < i → ra j = rb j ∧ ia j = ib j) ∧ fr = Sx.frL [(0, Sx.slcV 0 la), (1, Sx.slcV 1 lb), (5, .int true .i64 i)] ∧ H = Sx.hpL [(0, .cells false 1 la (.fn fun j => [.cpx true (ra j) (ia j)])), (1, .cells false 1 lb (.fn fun j => [.cpx true (rb j) (ib j)]))]
def saP (la lb : Nat) (ra ia rb ib : Nat → Nat) : Sx.Po := fun e fr H => (e = .exit 0 ∧ ∀ j, j < la → ra j = rb j ∧ ia j = ib j) ∨ (e = .ret ∧ ¬ (∀ j, j < la → ra j = rb j ∧ ia j = ib j) ∧ fr.get 4 = some (.bool false))
theorem sa_body (la lb : Nat) (ra ia rb ib : Nat → Nat) (hl : la = lb) (hm : la ≤ 9223372036854775807) (k : Nat) (fr : Sx.Fr) (H : Sx.T Sx.ABk) (hI : saI la lb ra ia rb ib k fr H) :
  Sx.GoesB Try.prog (Sx.nav [1,1,0,1,0,0] (Sx.bodyOf Try.f50)) Try.f50.ntmps 2 2 2 fr H fun e fr' H' => match e with
   | .normal => ∃ k', k' < k ∧ saI la lb ra ia rb ib k' fr' H'
   | e => saP la lb ra ia rb ib e fr' H' := by
 obtain ⟨i, rfl, hi, hs, rfl, rfl⟩ := hI
 have hx : decide ((i : Int) < (la : Int)) = true → i < la := fun t => by have := of_decide_eq_true t; omega
 have hB := saB 2 (by omega) la lb i ra ia rb ib (fun t => by have := hx t; omega) (fun t => by have := hx t; simp; omega) (fun t _ _ => by have := hx t; omega)
 simp only [Nat.zero_add, Int.toNat_natCast] at hB
 refine hB.mono fun e fr' H' h => ?_
 refine Sx.cond_elim h (fun t h => ?_) (fun t h => ?_)
 ·have hlt := hx t
  refine Sx.cond_elim h (fun t1 h => ?_) (fun t1 h => ?_)
  ·refine Sx.cond_elim h (fun t2 h => ?_) (fun t2 h => ?_)
   ·obtain ⟨rfl, rfl, rfl⟩ := h
    refine ⟨la - (i + 1), by omega, i + 1, rfl, by omega, fun j hj => ?_, rfl, rfl⟩
    by_cases hji : j < i
    ·exact hs j hji
    ·have e : j = i := by omega
     subst e
     exact ⟨of_decide_eq_true t1, of_decide_eq_true t2⟩
   ·obtain ⟨rfl, rfl, rfl⟩ := h
    exact .inr ⟨rfl, fun hh => absurd (hh i hlt).2 (of_decide_eq_false t2), rfl⟩
  ·obtain ⟨rfl, rfl, rfl⟩ := h
   exact .inr ⟨rfl, fun hh => absurd (hh i hlt).1 (of_decide_eq_false t1), rfl⟩
 ·obtain ⟨rfl, rfl, rfl⟩ := h
  exact .inl ⟨rfl, fun j hj => hs j (by have := of_decide_eq_false t; omega)⟩
theorem sa_is : (Sx.bodyOf Try.f50) = .seq (Sx.nav [0] (Sx.bodyOf Try.f50)) (.seq (Sx.nav [1,0] (Sx.bodyOf Try.f50)) (.seq (.seq (Sx.nav [1,1,0,0] (Sx.bodyOf Try.f50)) (.block 0 (.loop (Sx.nav [1,1,0,1,0,0] (Sx.bodyOf Try.f50))))) (Sx.nav [1,1,1] (Sx.bodyOf Try.f50)))) := by kernel_rfl
theorem sa_goes (la lb : Nat) (ra ia rb ib : Nat → Nat) (hm : la ≤ 9223372036854775807) :
  Sx.GoesB Try.prog (Sx.bodyOf Try.f50) Try.f50.ntmps 2 2 2 (Sx.frameOf [Sx.slcV 0 la, Sx.slcV 1 lb] 0 .e) (Sx.hpL [(0, .cells false 1 la (.fn fun j => [.cpx true (ra j) (ia j)])), (1, .cells false 1 lb (.fn fun j => [.cpx true (rb j) (ib j)]))]) fun e fr' H' => (e = .ret ∨ e = .normal) ∧ fr'.get 4 = some (.bool (Sx.cd (la = lb ∧ ∀ j, j < la → ra j = rb j ∧ ia j = ib j))) := by
 rw [sa_is]
 refine Sx.GoesB.seq (K1 := 2) (by omega) ((saA 2 (by omega) la lb ra ia rb ib).mono fun e fr' H' ⟨e1, e2, e3⟩ => ?_)
 subst e1 e2 e3
 refine Sx.GoesB.seq (K1 := 2) (by omega) ((saC 2 (by omega) la lb ra ia rb ib).mono fun e fr' H' h => ?_)
 refine Sx.cond_elim h (fun t h => ?_) (fun t h => ?_)
 case refine_2 =>
  obtain ⟨rfl, rfl, rfl⟩ := h
  exact ⟨.inl rfl, by rw [Sx.cd_false (fun hh => by have h1 := hh.1; subst h1; simp at t)]; rfl⟩
 obtain ⟨rfl, rfl, rfl⟩ := h
 have hl : la = lb := by have := of_decide_eq_true t; omega
 refine Sx.GoesB.seq (K1 := 2) (by omega) (Sx.GoesB.seq (K1 := 2) (by omega) (Sx.GoesB.weakL (fl := [(0, Sx.slcV 0 la), (1, Sx.slcV 1 lb)]) (bl := [(0, .cells false 1 la (.fn fun j => [.cpx true (ra j) (ia j)])), (1, .cells false 1 lb (.fn fun j => [.cpx true (rb j) (ib j)]))]) ⟨⟨_, rfl, Sx.AV.ge.refl _⟩, ⟨_, rfl, Sx.AV.ge.refl _⟩, trivial⟩ ⟨⟨_, rfl, Sx.SameC.refl _⟩, ⟨_, rfl, Sx.SameC.refl _⟩, trivial⟩ ((saD 2 (by omega) la lb ra ia rb ib).mono fun e fr' H' ⟨e1, e2, e3⟩ => ?_)))
 subst e1 e2 e3
 refine Sx.GoesB.weakL (fl := [(0, Sx.slcV 0 la), (1, Sx.slcV 1 lb), (5, .int true .i64 (0 : Nat))]) (bl := [(0, .cells false 1 la (.fn fun j => [.cpx true (ra j) (ia j)])), (1, .cells false 1 lb (.fn fun j => [.cpx true (rb j) (ib j)]))]) ⟨⟨_, rfl, Sx.AV.ge.refl _⟩, ⟨_, rfl, Sx.AV.ge.refl _⟩, ⟨_, rfl, Sx.AV.ge.int _ _ _ _⟩, trivial⟩ ⟨⟨_, rfl, Sx.SameC.refl _⟩, ⟨_, rfl, Sx.SameC.refl _⟩, trivial⟩ ?_
 refine Sx.GoesB.block ((Sx.GoesB.loop (saI la lb ra ia rb ib) (Post := saP la lb ra ia rb ib) (sa_body la lb ra ia rb ib hl hm) _ _ _ ⟨0, rfl, by omega, fun j hj => by omega, rfl, rfl⟩).mono fun e fr' H' hp => ?_)
 rcases hp with ⟨rfl, h1⟩ | ⟨rfl, h1, h2⟩
 ·simp only [if_true]
  refine Sx.GoesB.weakL (fl := []) (bl := []) trivial trivial ((saZ 2 (by omega)).mono fun e fr' H' ⟨e1, e2, e3⟩ => ?_)
  subst e1 e2 e3
  exact ⟨.inl rfl, by rw [Sx.cd_true ⟨hl, h1⟩]; rfl⟩
 ·exact ⟨.inl rfl, by rw [Sx.cd_false (fun hh => h1 hh.2)]; exact h2⟩
noncomputable def sameNS : List Sx.AV → Sx.M Sx.AV
 | [x, y] => (Sx.rd 1 x fun len rows => len ≤ 9223372036854775807 ∧ Sx.CRows len rows).andThen fun a => (Sx.rd 1 y fun len rows => Sx.CRows len rows).andThen fun b => Sx.M.ret (.sbool (Sx.cd (Sx.CSame a.1 b.1 a.2 b.2)))
 | _ => Sx.M.no
theorem sameNS_ok : ∀ args v g g', sameNS args g = .done v g' → Sx.CallIs Try.prog 50 args v g g' := by
 intro args v g g' h
 unfold sameNS at h
 split at h
 ·rename_i x y
  obtain ⟨⟨la, ra⟩, g1, a1, h1⟩ := Sx.done_of h
  obtain ⟨⟨lb, rb⟩, g2, a2, h2⟩ := Sx.done_of h1
  obtain ⟨rfl, rfl⟩ := Sx.ret_done h2
  obtain ⟨q1, k1, f1⟩ := Sx.rd_done a1 (by omega)
  obtain ⟨q2, k2, f2⟩ := Sx.rd_done a2 (by omega)
  have k := k1.trans k2
  have ok2 : q1 ∧ q2 → Sx.Vw.Ok ⟨y, 1, lb, rb⟩ g := fun hp => (f2 hp.2).1.same k1
  refine Sx.reads (c := (Sx.bodyOf Try.f50)) Try.func50 (by kernel_rfl) (by kernel_rfl) k [⟨x, 1, la, ra⟩, ⟨y, 1, lb, rb⟩] (fun hp v hv => ?_) (argsC := [Sx.slcV 0 la, Sx.slcV 1 lb]) (fun hp N μ cs hcs => ?_) (nms := []) (bs := []) (K' := 2) (fun hp => ?_) rfl trivial (by rw [k.1]; rfl) (by rw [k.2.1]; rfl) id
  ·rcases List.mem_cons.1 hv with rfl | hv
   ·exact (f1 hp.1).1
   ·rcases List.mem_cons.1 hv with rfl | hv
    ·exact ok2 hp
    ·cases hv
  ·simp only [Sx.Reps] at hcs
   obtain ⟨c, r, rfl, hc, c', r', rfl, hc', rfl⟩ := hcs
   simp only [Sx.Reps]
   exact ⟨c, _, rfl, Sx.vw_val (l := [⟨x, 1, la, ra⟩, ⟨y, 1, lb, rb⟩]) (i := 0) (f1 hp.1).1 rfl hc, c', _, rfl, Sx.vw_val (l := [⟨x, 1, la, ra⟩, ⟨y, 1, lb, rb⟩]) (i := 1) (ok2 hp) rfl hc', rfl⟩
  ·obtain ⟨_, hm, hz⟩ := f1 hp.1
   obtain ⟨_, hz'⟩ := f2 hp.2
   dsimp only at hm hz hz'
   refine Sx.GoesB.weakGL (fl := [(0, Sx.slcV 0 la), (1, Sx.slcV 1 lb)]) (bl := [(0, .cells false 1 la (.fn fun j => [.cpx true (Sx.cre (ra j)) (Sx.cim (ra j))])), (1, .cells false 1 lb (.fn fun j => [.cpx true (Sx.cre (rb j)) (Sx.cim (rb j))]))]) ⟨⟨_, rfl, Sx.AV.ge.refl _⟩, ⟨_, rfl, Sx.AV.ge.refl _⟩, trivial⟩ ⟨⟨_, rfl, rfl, rfl, rfl, fun j hj => (hz j hj).ge⟩, ⟨_, rfl, rfl, rfl, rfl, fun j hj => (hz' j hj).ge⟩, trivial⟩ ?_
   refine (sa_goes la lb (fun j => Sx.cre (ra j)) (fun j => Sx.cim (ra j)) (fun j => Sx.cre (rb j)) (fun j => Sx.cim (rb j)) hm).mono fun e fr' H' ⟨e1, e2⟩ => ?_
   exact ⟨e1, _, _, Sx.res1 (t := 4) (by kernel_rfl) e2, trivial, Sx.AV.ge.bool _, Sx.news0⟩
 ·exact (Sx.no_done h).elim
theorem sameNS_tch : ∀ args, Sx.Tch (sameNS args) := by
 intro args
 unfold sameNS
 split
 ·exact (Sx.Tch.rd _ _ _).andThen fun _ => (Sx.Tch.rd _ _ _).andThen fun _ => Sx.Tch.ret _
 ·exact Sx.Tch.no

theorem fin_r0 (a b : Nat) (c0 : Sx.feq (Sx.fsub a a) (0 : Nat) = true) : Sx.PureP (Sx.AV.sbool (Sx.feq (Sx.fsub b b) (0 : Nat))) (call1 45 [.cpx true a b] (Sx.G.on [true])) := Sx.eqq (q := (True ∧ (Sx.feq (Sx.fsub a a) (0 : Nat) = true))) (by kernel_rfl) ⟨trivial, c0⟩
theorem fin_r1 (a b : Nat) (c0 : Sx.feq (Sx.fsub a a) (0 : Nat) = false) : Sx.PureP (Sx.AV.bool false) (call1 45 [.cpx true a b] (Sx.G.on [false])) := Sx.eqq (q := (True ∧ (Sx.feq (Sx.fsub a a) (0 : Nat) = false))) (by kernel_rfl) ⟨trivial, c0⟩
noncomputable def fin_0 (a b : Nat) : Bool := (bif Sx.feq (Sx.fsub a a) (0 : Nat) then (Sx.feq (Sx.fsub b b) (0 : Nat)) else (false))
noncomputable def finS : List Sx.AV → Sx.M Sx.AV
 | [.cpx s0 a b] => Sx.M.ret (Sx.cmpB s0 (fin_0 a b))
 | args => call1 45 args
theorem finS_ok : ∀ args v g g', finS args g = .done v g' → Sx.CallIs Try.prog 45 args v g g' := by
 intro args v g g' h
 unfold finS at h
 split at h
 ·rename_i s0 a b
  obtain ⟨rfl, rfl⟩ := Sx.ret_done h
  refine Sx.scal call1_ok fun μ cargs ha => ?_
  have ha' : Sx.Reps 0 Sx.MM.none [.cpx true a b] cargs.toList := by simpa only [Sx.Reps, Sx.Rep] using ha
  cases t0 : Sx.feq (Sx.fsub a a) (0 : Nat) with
  | true =>
   exact ⟨_, _, _, ha', fin_r0 a b t0, rfl, fun cv hc => by have := hc g.nx μ; have e0 : fin_0 a b = (Sx.feq (Sx.fsub b b) (0 : Nat)) := (Sx.ct t0).trans (rfl); rw [e0]; simpa only [Sx.Rep, Sx.Reps, Sx.Rep_cmpB] using this⟩
  | false =>
   exact ⟨_, _, _, ha', fin_r1 a b t0, rfl, fun cv hc => by have := hc g.nx μ; have e0 : fin_0 a b = (false) := (Sx.cf t0).trans (rfl); rw [e0]; simpa only [Sx.Rep, Sx.Reps, Sx.Rep_cmpB] using this⟩
 ·exact call1_ok _ _ _ _ _ h
theorem finS_tch : ∀ args, Sx.Tch (finS args) := by
 intro args
 unfold finS
 split
 ·exact Sx.Tch.ret _
 ·exact call1_tch _ _
theorem rfin_r0 (a b : Nat) (c0 : Sx.feq (Sx.fsub a a) (0 : Nat) = true) : Sx.PureP (Sx.AV.sbool (Sx.feq (Sx.fsub b b) (0 : Nat))) (call1 47 [.cpx true a b] (Sx.G.on [true])) := Sx.eqq (q := (True ∧ (Sx.feq (Sx.fsub a a) (0 : Nat) = true))) (by kernel_rfl) ⟨trivial, c0⟩
theorem rfin_r1 (a b : Nat) (c0 : Sx.feq (Sx.fsub a a) (0 : Nat) = false) : Sx.PureP (Sx.AV.bool false) (call1 47 [.cpx true a b] (Sx.G.on [false])) := Sx.eqq (q := (True ∧ (Sx.feq (Sx.fsub a a) (0 : Nat) = false))) (by kernel_rfl) ⟨trivial, c0⟩
noncomputable def rfin_0 (a b : Nat) : Bool := (bif Sx.feq (Sx.fsub a a) (0 : Nat) then (Sx.feq (Sx.fsub b b) (0 : Nat)) else (false))
noncomputable def rfinS : List Sx.AV → Sx.M Sx.AV
 | [.cpx s0 a b] => Sx.M.ret (Sx.cmpB s0 (rfin_0 a b))
 | args => call1 47 args
theorem rfinS_ok : ∀ args v g g', rfinS args g = .done v g' → Sx.CallIs Try.prog 47 args v g g' := by
 intro args v g g' h
 unfold rfinS at h
 split at h
 ·rename_i s0 a b
  obtain ⟨rfl, rfl⟩ := Sx.ret_done h
  refine Sx.scal call1_ok fun μ cargs ha => ?_
  have ha' : Sx.Reps 0 Sx.MM.none [.cpx true a b] cargs.toList := by simpa only [Sx.Reps, Sx.Rep] using ha
  cases t0 : Sx.feq (Sx.fsub a a) (0 : Nat) with
  | true =>
   exact ⟨_, _, _, ha', rfin_r0 a b t0, rfl, fun cv hc => by have := hc g.nx μ; have e0 : rfin_0 a b = (Sx.feq (Sx.fsub b b) (0 : Nat)) := (Sx.ct t0).trans (rfl); rw [e0]; simpa only [Sx.Rep, Sx.Reps, Sx.Rep_cmpB] using this⟩
  | false =>
   exact ⟨_, _, _, ha', rfin_r1 a b t0, rfl, fun cv hc => by have := hc g.nx μ; have e0 : rfin_0 a b = (false) := (Sx.cf t0).trans (rfl); rw [e0]; simpa only [Sx.Rep, Sx.Reps, Sx.Rep_cmpB] using this⟩
 ·exact call1_ok _ _ _ _ _ h
theorem rfinS_tch : ∀ args, Sx.Tch (rfinS args) := by
 intro args
 unfold rfinS
 split
 ·exact Sx.Tch.ret _
 ·exact call1_tch _ _
theorem zer_r0 (a b : Nat) (c0 : Sx.feq a (0 : Nat) = true) : Sx.PureP (Sx.AV.sbool (Sx.feq b (0 : Nat))) (call1 46 [.cpx true a b] (Sx.G.on [true])) := Sx.eqq (q := (True ∧ (Sx.feq a (0 : Nat) = true))) (by kernel_rfl) ⟨trivial, c0⟩
theorem zer_r1 (a b : Nat) (c0 : Sx.feq a (0 : Nat) = false) : Sx.PureP (Sx.AV.bool false) (call1 46 [.cpx true a b] (Sx.G.on [false])) := Sx.eqq (q := (True ∧ (Sx.feq a (0 : Nat) = false))) (by kernel_rfl) ⟨trivial, c0⟩
noncomputable def zer_0 (a b : Nat) : Bool := (bif Sx.feq a (0 : Nat) then (Sx.feq b (0 : Nat)) else (false))
noncomputable def zerS : List Sx.AV → Sx.M Sx.AV
 | [.cpx s0 a b] => Sx.M.ret (Sx.cmpB s0 (zer_0 a b))
 | args => call1 46 args
theorem zerS_ok : ∀ args v g g', zerS args g = .done v g' → Sx.CallIs Try.prog 46 args v g g' := by
 intro args v g g' h
 unfold zerS at h
 split at h
 ·rename_i s0 a b
  obtain ⟨rfl, rfl⟩ := Sx.ret_done h
  refine Sx.scal call1_ok fun μ cargs ha => ?_
  have ha' : Sx.Reps 0 Sx.MM.none [.cpx true a b] cargs.toList := by simpa only [Sx.Reps, Sx.Rep] using ha
  cases t0 : Sx.feq a (0 : Nat) with
  | true =>
   exact ⟨_, _, _, ha', zer_r0 a b t0, rfl, fun cv hc => by have := hc g.nx μ; have e0 : zer_0 a b = (Sx.feq b (0 : Nat)) := (Sx.ct t0).trans (rfl); rw [e0]; simpa only [Sx.Rep, Sx.Reps, Sx.Rep_cmpB] using this⟩
  | false =>
   exact ⟨_, _, _, ha', zer_r1 a b t0, rfl, fun cv hc => by have := hc g.nx μ; have e0 : zer_0 a b = (false) := (Sx.cf t0).trans (rfl); rw [e0]; simpa only [Sx.Rep, Sx.Reps, Sx.Rep_cmpB] using this⟩
 ·exact call1_ok _ _ _ _ _ h
theorem zerS_tch : ∀ args, Sx.Tch (zerS args) := by
 intro args
 unfold zerS
 split
 ·exact Sx.Tch.ret _
 ·exact call1_tch _ _
theorem rzer_r0 (a b : Nat) (c0 : Sx.feq a (0 : Nat) = true) : Sx.PureP (Sx.AV.sbool (Sx.feq b (0 : Nat))) (call1 48 [.cpx true a b] (Sx.G.on [true])) := Sx.eqq (q := (True ∧ (Sx.feq a (0 : Nat) = true))) (by kernel_rfl) ⟨trivial, c0⟩
theorem rzer_r1 (a b : Nat) (c0 : Sx.feq a (0 : Nat) = false) : Sx.PureP (Sx.AV.bool false) (call1 48 [.cpx true a b] (Sx.G.on [false])) := Sx.eqq (q := (True ∧ (Sx.feq a (0 : Nat) = false))) (by kernel_rfl) ⟨trivial, c0⟩
noncomputable def rzer_0 (a b : Nat) : Bool := (bif Sx.feq a (0 : Nat) then (Sx.feq b (0 : Nat)) else (false))
noncomputable def rzerS : List Sx.AV → Sx.M Sx.AV
 | [.cpx s0 a b] => Sx.M.ret (Sx.cmpB s0 (rzer_0 a b))
 | args => call1 48 args
theorem rzerS_ok : ∀ args v g g', rzerS args g = .done v g' → Sx.CallIs Try.prog 48 args v g g' := by
 intro args v g g' h
 unfold rzerS at h
 split at h
 ·rename_i s0 a b
  obtain ⟨rfl, rfl⟩ := Sx.ret_done h
  refine Sx.scal call1_ok fun μ cargs ha => ?_
  have ha' : Sx.Reps 0 Sx.MM.none [.cpx true a b] cargs.toList := by simpa only [Sx.Reps, Sx.Rep] using ha
  cases t0 : Sx.feq a (0 : Nat) with
  | true =>
   exact ⟨_, _, _, ha', rzer_r0 a b t0, rfl, fun cv hc => by have := hc g.nx μ; have e0 : rzer_0 a b = (Sx.feq b (0 : Nat)) := (Sx.ct t0).trans (rfl); rw [e0]; simpa only [Sx.Rep, Sx.Reps, Sx.Rep_cmpB] using this⟩
  | false =>
   exact ⟨_, _, _, ha', rzer_r1 a b t0, rfl, fun cv hc => by have := hc g.nx μ; have e0 : rzer_0 a b = (false) := (Sx.cf t0).trans (rfl); rw [e0]; simpa only [Sx.Rep, Sx.Reps, Sx.Rep_cmpB] using this⟩
 ·exact call1_ok _ _ _ _ _ h
theorem rzerS_tch : ∀ args, Sx.Tch (rzerS args) := by
 intro args
 unfold rzerS
 split
 ·exact Sx.Tch.ret _
 ·exact call1_tch _ _
theorem sz_r0 (a b : Nat) : Sx.PureP (Sx.AV.flt true (Sx.fadd (Sx.fabs a) (Sx.fabs b))) (call1 20 [.cpx true a b] (Sx.G.on [])) := Sx.eqq (q := True) (by kernel_rfl) trivial
noncomputable def szS : List Sx.AV → Sx.M Sx.AV
 | [.cpx s0 a b] => Sx.M.ret (Sx.AV.flt s0 (Sx.fadd (Sx.fabs a) (Sx.fabs b)))
 | args => call1 20 args
theorem szS_ok : ∀ args v g g', szS args g = .done v g' → Sx.CallIs Try.prog 20 args v g g' := by
 intro args v g g' h
 unfold szS at h
 split at h
 ·rename_i s0 a b
  obtain ⟨rfl, rfl⟩ := Sx.ret_done h
  refine Sx.scal call1_ok fun μ cargs ha => ?_
  have ha' : Sx.Reps 0 Sx.MM.none [.cpx true a b] cargs.toList := by simpa only [Sx.Reps, Sx.Rep] using ha
  exact ⟨_, _, _, ha', sz_r0 a b, rfl, fun cv hc => by have := hc g.nx μ; simpa only [Sx.Rep, Sx.Reps, Sx.Rep_cmpB] using this⟩
 ·exact call1_ok _ _ _ _ _ h
theorem szS_tch : ∀ args, Sx.Tch (szS args) := by
 intro args
 unfold szS
 split
 ·exact Sx.Tch.ret _
 ·exact call1_tch _ _
theorem rsz_r0 (a b : Nat) : Sx.PureP (Sx.AV.flt true (Sx.fadd (Sx.fabs a) (Sx.fabs b))) (call1 49 [.cpx true a b] (Sx.G.on [])) := Sx.eqq (q := True) (by kernel_rfl) trivial
noncomputable def rszS : List Sx.AV → Sx.M Sx.AV
 | [.cpx s0 a b] => Sx.M.ret (Sx.AV.flt s0 (Sx.fadd (Sx.fabs a) (Sx.fabs b)))
 | args => call1 49 args
theorem rszS_ok : ∀ args v g g', rszS args g = .done v g' → Sx.CallIs Try.prog 49 args v g g' := by
 intro args v g g' h
 unfold rszS at h
 split at h
 ·rename_i s0 a b
  obtain ⟨rfl, rfl⟩ := Sx.ret_done h
  refine Sx.scal call1_ok fun μ cargs ha => ?_
  have ha' : Sx.Reps 0 Sx.MM.none [.cpx true a b] cargs.toList := by simpa only [Sx.Reps, Sx.Rep] using ha
  exact ⟨_, _, _, ha', rsz_r0 a b, rfl, fun cv hc => by have := hc g.nx μ; simpa only [Sx.Rep, Sx.Reps, Sx.Rep_cmpB] using this⟩
 ·exact call1_ok _ _ _ _ _ h
theorem rszS_tch : ∀ args, Sx.Tch (rszS args) := by
 intro args
 unfold rszS
 split
 ·exact Sx.Tch.ret _
 ·exact call1_tch _ _
noncomputable def gam2 : Sx.Known := Sx.kc 54 Sx.toBits (Sx.kc 60 Sx.ofBits (Sx.kc 64 srealS (Sx.kc 29 rrealS (Sx.kc 10 numbersS (Sx.kc 11 lentS (Sx.kc 50 sameNS (Sx.kc 45 finS (Sx.kc 47 rfinS (Sx.kc 46 zerS (Sx.kc 48 rzerS (Sx.kc 20 szS (Sx.kc 49 rszS (Sx.kn)))))))))))))
theorem gam2_ok : Sx.KnownOk Try.prog gam2 := Sx.kc_ok ((Sx.toBits_is Try.prog).callIs Try.func54 (by kernel_rfl) (by kernel_rfl) (by kernel_rfl) (by kernel_rfl)) (Sx.kc_ok ((Sx.ofBits_is Try.prog).callIs Try.func60 (by kernel_rfl) (by kernel_rfl) (by kernel_rfl) (by kernel_rfl)) (Sx.kc_ok srealS_ok (Sx.kc_ok rrealS_ok (Sx.kc_ok numbersS_ok (Sx.kc_ok lentS_ok (Sx.kc_ok sameNS_ok (Sx.kc_ok finS_ok (Sx.kc_ok rfinS_ok (Sx.kc_ok zerS_ok (Sx.kc_ok rzerS_ok (Sx.kc_ok szS_ok (Sx.kc_ok rszS_ok (Sx.kn_ok)))))))))))))
theorem gam2_tch : Sx.KnownT gam2 := Sx.kc_tch Sx.Tch.toBits (Sx.kc_tch Sx.Tch.ofBits (Sx.kc_tch srealS_tch (Sx.kc_tch rrealS_tch (Sx.kc_tch numbersS_tch (Sx.kc_tch lentS_tch (Sx.kc_tch sameNS_tch (Sx.kc_tch finS_tch (Sx.kc_tch rfinS_tch (Sx.kc_tch zerS_tch (Sx.kc_tch rzerS_tch (Sx.kc_tch szS_tch (Sx.kc_tch rszS_tch (Sx.kn_tch)))))))))))))
noncomputable def call2 : Sx.Calls' := Sx.runN Try.prog gam2 (Sx.regionC Try.prog) 1000 50
theorem call2_ok : Sx.CallOk Try.prog call2 := Sx.engineC gam2_ok gam2_tch (by kernel_rfl) (by kernel_rfl) 1000 50
theorem call2_tch : Sx.CallT call2 := Sx.runA_tch gam2_tch (fun _ _ _ h => by cases h) (fun call hc n l fr => Sx.regionC_tch hc n l fr) 50
theorem call2_reg (n : Nat) : Sx.RegionOk Try.prog (Sx.regionC Try.prog call2 n) n := Sx.runN_regionC gam2_ok gam2_tch (by kernel_rfl) (by kernel_rfl) 1000 50 n
noncomputable abbrev piececall2 (f : Func) (c : Code) (fr : Sx.Fr) (H : Sx.T Sx.ABk) (K : Nat) (path : List Bool) : Sx.Res (Sx.Ex × Sx.Fr) :=
 Sx.codeA Try.prog call2 (Sx.regionC Try.prog call2 f.ntmps) Sx.noLoops f.ntmps 1000 c fr ⟨H, K, [], path, True⟩
theorem lives_run : Sx.pureP (.bool true) (call2 14 [] (Sx.G.on [])) = (Sx.AV.bool true = Sx.AV.bool true ∧ True) := by kernel_rfl
noncomputable def livesS : List Sx.AV → Sx.M Sx.AV
 | [] => Sx.M.ret (.bool true)
 | args => call2 14 args
theorem livesS_ok : ∀ args v g g', livesS args g = .done v g' → Sx.CallIs Try.prog 14 args v g g' := by
 intro args v g g' h
 unfold livesS at h
 split at h
 ·obtain ⟨rfl, rfl⟩ := Sx.ret_done h
  refine Sx.scal call2_ok fun μ cargs ha => ?_
  have ha' : Sx.Reps 0 Sx.MM.none [] cargs.toList := by simpa only [Sx.Reps] using ha
  exact ⟨[], [], _, ha', ⟨by rw [lives_run]; exact ⟨rfl, trivial⟩⟩, rfl, fun c hc => by have := hc g.nx μ; simpa only [Sx.Rep] using this⟩
 ·exact call2_ok _ _ _ _ _ h
theorem livesS_tch : ∀ args, Sx.Tch (livesS args) := by
 intro args
 unfold livesS
 split
 ·exact Sx.Tch.ret _
 ·exact call2_tch _ _

theorem chA_r0 (len : Nat) (f : Int) (re im : Nat → Nat) : Sx.PieceN 1 (Sx.Ex.normal) [(0, Sx.AV.slc true false (Sx.AA.mk false (0 : Nat) (0 : Nat) (0 : Nat)) len), (1, Sx.AV.int true IntKind.i64 f)] [(0, Sx.ABk.cells false (1 : Nat) len (Sx.Cont.fn fun j => [Sx.AV.cpx true (re j) (im j)]))] (piececall2 Try.f12 (Sx.nav [0] (Sx.bodyOf Try.f12)) (Sx.frameOf [Sx.slcV 0 len, .int true .i64 f] 0 .e) (Sx.hpL [(0, .cells false 1 len (.fn fun j => [.cpx true (re j) (im j)]))]) 1 []) := Sx.eqn (q := True) (by kernel_rfl) trivial
theorem chA (B : Nat) (hB : B ≤ 1) (len : Nat) (f : Int) (re im : Nat → Nat) : Sx.GoesB Try.prog (Sx.nav [0] (Sx.bodyOf Try.f12)) Try.f12.ntmps B 1 1 (Sx.frameOf [Sx.slcV 0 len, .int true .i64 f] 0 .e) (Sx.hpL [(0, .cells false 1 len (.fn fun j => [.cpx true (re j) (im j)]))]) fun e fr' H' => (e = Sx.Ex.normal ∧ fr' = Sx.frL [(0, Sx.AV.slc true false (Sx.AA.mk false (0 : Nat) (0 : Nat) (0 : Nat)) len), (1, Sx.AV.int true IntKind.i64 f)] ∧ H' = Sx.hpL [(0, Sx.ABk.cells false (1 : Nat) len (Sx.Cont.fn fun j => [Sx.AV.cpx true (re j) (im j)]))]) := by
 exact (Sx.GoesB.runN call2_ok (call2_reg _) (Sx.LoopsIn.none _ _ _) (chA_r0 len f re im) hB).mono fun e fr' H' h => h
theorem chB_r0 (len : Nat) (f : Int) (re im : Nat → Nat) (c0 : decide ((64 : Int) < (↑len : Int)) = true) : Sx.PieceN 1 (Sx.Ex.ret) [(0, Sx.AV.slc true false (Sx.AA.mk false (0 : Nat) (0 : Nat) (0 : Nat)) len), (1, Sx.AV.int true IntKind.i64 f), (4, Sx.AV.int false IntKind.i64 (0 : Int)), (5, Sx.AV.int false IntKind.i64 (3 : Int))] [(0, Sx.ABk.cells false (1 : Nat) len (Sx.Cont.fn fun j => [Sx.AV.cpx true (re j) (im j)]))] (piececall2 Try.f12 (Sx.nav [1,0] (Sx.bodyOf Try.f12)) (Sx.frL [(0, Sx.slcV 0 len), (1, .int true .i64 f)]) (Sx.hpL [(0, .cells false 1 len (.fn fun j => [.cpx true (re j) (im j)]))]) 1 [true]) := Sx.eqn (q := (True ∧ (decide ((64 : Int) < (↑len : Int)) = true))) (by kernel_rfl) ⟨trivial, c0⟩
theorem chB_r1 (len : Nat) (f : Int) (re im : Nat → Nat) (c0 : decide ((64 : Int) < (↑len : Int)) = false) (c1 : decide (f < (0 : Int)) = true) : Sx.PieceN 1 (Sx.Ex.ret) [(0, Sx.AV.slc true false (Sx.AA.mk false (0 : Nat) (0 : Nat) (0 : Nat)) len), (1, Sx.AV.int true IntKind.i64 f), (4, Sx.AV.int false IntKind.i64 (0 : Int)), (5, Sx.AV.int false IntKind.i64 (2 : Int))] [(0, Sx.ABk.cells false (1 : Nat) len (Sx.Cont.fn fun j => [Sx.AV.cpx true (re j) (im j)]))] (piececall2 Try.f12 (Sx.nav [1,0] (Sx.bodyOf Try.f12)) (Sx.frL [(0, Sx.slcV 0 len), (1, .int true .i64 f)]) (Sx.hpL [(0, .cells false 1 len (.fn fun j => [.cpx true (re j) (im j)]))]) 1 [false, true]) := Sx.eqn (q := ((True ∧ (decide ((64 : Int) < (↑len : Int)) = false)) ∧ (decide (f < (0 : Int)) = true))) (by kernel_rfl) ⟨⟨trivial, c0⟩, c1⟩
theorem chB_r2 (len : Nat) (f : Int) (re im : Nat → Nat) (c0 : decide ((64 : Int) < (↑len : Int)) = false) (c1 : decide (f < (0 : Int)) = false) (c2 : decide ((↑len : Int) ≤ f) = true) : Sx.PieceN 1 (Sx.Ex.ret) [(0, Sx.AV.slc true false (Sx.AA.mk false (0 : Nat) (0 : Nat) (0 : Nat)) len), (1, Sx.AV.int true IntKind.i64 f), (4, Sx.AV.int false IntKind.i64 (0 : Int)), (5, Sx.AV.int false IntKind.i64 (2 : Int))] [(0, Sx.ABk.cells false (1 : Nat) len (Sx.Cont.fn fun j => [Sx.AV.cpx true (re j) (im j)]))] (piececall2 Try.f12 (Sx.nav [1,0] (Sx.bodyOf Try.f12)) (Sx.frL [(0, Sx.slcV 0 len), (1, .int true .i64 f)]) (Sx.hpL [(0, .cells false 1 len (.fn fun j => [.cpx true (re j) (im j)]))]) 1 [false, false, true]) := Sx.eqn (q := (((True ∧ (decide ((64 : Int) < (↑len : Int)) = false)) ∧ (decide (f < (0 : Int)) = false)) ∧ (decide ((↑len : Int) ≤ f) = true))) (by kernel_rfl) ⟨⟨⟨trivial, c0⟩, c1⟩, c2⟩
theorem chB_r3 (len : Nat) (f : Int) (re im : Nat → Nat) (c0 : decide ((64 : Int) < (↑len : Int)) = false) (c1 : decide (f < (0 : Int)) = false) (c2 : decide ((↑len : Int) ≤ f) = false) : Sx.PieceN 1 (Sx.Ex.normal) [(0, Sx.AV.slc true false (Sx.AA.mk false (0 : Nat) (0 : Nat) (0 : Nat)) len), (1, Sx.AV.int true IntKind.i64 f)] [(0, Sx.ABk.cells false (1 : Nat) len (Sx.Cont.fn fun j => [Sx.AV.cpx true (re j) (im j)]))] (piececall2 Try.f12 (Sx.nav [1,0] (Sx.bodyOf Try.f12)) (Sx.frL [(0, Sx.slcV 0 len), (1, .int true .i64 f)]) (Sx.hpL [(0, .cells false 1 len (.fn fun j => [.cpx true (re j) (im j)]))]) 1 [false, false, false]) := Sx.eqn (q := (((True ∧ (decide ((64 : Int) < (↑len : Int)) = false)) ∧ (decide (f < (0 : Int)) = false)) ∧ (decide ((↑len : Int) ≤ f) = false))) (by kernel_rfl) ⟨⟨⟨trivial, c0⟩, c1⟩, c2⟩
theorem chB (B : Nat) (hB : B ≤ 1) (len : Nat) (f : Int) (re im : Nat → Nat) : Sx.GoesB Try.prog (Sx.nav [1,0] (Sx.bodyOf Try.f12)) Try.f12.ntmps B 1 1 (Sx.frL [(0, Sx.slcV 0 len), (1, .int true .i64 f)]) (Sx.hpL [(0, .cells false 1 len (.fn fun j => [.cpx true (re j) (im j)]))]) fun e fr' H' => (cond (decide ((64 : Int) < (↑len : Int))) (e = Sx.Ex.ret ∧ fr' = Sx.frL [(0, Sx.AV.slc true false (Sx.AA.mk false (0 : Nat) (0 : Nat) (0 : Nat)) len), (1, Sx.AV.int true IntKind.i64 f), (4, Sx.AV.int false IntKind.i64 (0 : Int)), (5, Sx.AV.int false IntKind.i64 (3 : Int))] ∧ H' = Sx.hpL [(0, Sx.ABk.cells false (1 : Nat) len (Sx.Cont.fn fun j => [Sx.AV.cpx true (re j) (im j)]))]) (cond (decide (f < (0 : Int))) (e = Sx.Ex.ret ∧ fr' = Sx.frL [(0, Sx.AV.slc true false (Sx.AA.mk false (0 : Nat) (0 : Nat) (0 : Nat)) len), (1, Sx.AV.int true IntKind.i64 f), (4, Sx.AV.int false IntKind.i64 (0 : Int)), (5, Sx.AV.int false IntKind.i64 (2 : Int))] ∧ H' = Sx.hpL [(0, Sx.ABk.cells false (1 : Nat) len (Sx.Cont.fn fun j => [Sx.AV.cpx true (re j) (im j)]))]) (cond (decide ((↑len : Int) ≤ f)) (e = Sx.Ex.ret ∧ fr' = Sx.frL [(0, Sx.AV.slc true false (Sx.AA.mk false (0 : Nat) (0 : Nat) (0 : Nat)) len), (1, Sx.AV.int true IntKind.i64 f), (4, Sx.AV.int false IntKind.i64 (0 : Int)), (5, Sx.AV.int false IntKind.i64 (2 : Int))] ∧ H' = Sx.hpL [(0, Sx.ABk.cells false (1 : Nat) len (Sx.Cont.fn fun j => [Sx.AV.cpx true (re j) (im j)]))]) (e = Sx.Ex.normal ∧ fr' = Sx.frL [(0, Sx.AV.slc true false (Sx.AA.mk false (0 : Nat) (0 : Nat) (0 : Nat)) len), (1, Sx.AV.int true IntKind.i64 f)] ∧ H' = Sx.hpL [(0, Sx.ABk.cells false (1 : Nat) len (Sx.Cont.fn fun j => [Sx.AV.cpx true (re j) (im j)]))])))) := by
 cases t0 : decide ((64 : Int) < (↑len : Int)) with
 | true =>
  exact (Sx.GoesB.runN call2_ok (call2_reg _) (Sx.LoopsIn.none _ _ _) (chB_r0 len f re im t0) hB).mono fun e fr' H' h => by simp only [t0, cond_true, cond_false]; exact h
 | false =>
  cases t1 : decide (f < (0 : Int)) with
  | true =>
   exact (Sx.GoesB.runN call2_ok (call2_reg _) (Sx.LoopsIn.none _ _ _) (chB_r1 len f re im t0 t1) hB).mono fun e fr' H' h => by simp only [t0, t1, cond_true, cond_false]; exact h
  | false =>
   cases t2 : decide ((↑len : Int) ≤ f) with
   | true =>
    exact (Sx.GoesB.runN call2_ok (call2_reg _) (Sx.LoopsIn.none _ _ _) (chB_r2 len f re im t0 t1 t2) hB).mono fun e fr' H' h => by simp only [t0, t1, t2, cond_true, cond_false]; exact h
   | false =>
    exact (Sx.GoesB.runN call2_ok (call2_reg _) (Sx.LoopsIn.none _ _ _) (chB_r3 len f re im t0 t1 t2) hB).mono fun e fr' H' h => by simp only [t0, t1, t2, cond_true, cond_false]; exact h
theorem chC_r0 (len : Nat) (f : Int) (re im : Nat → Nat) : Sx.PieceN 1 (Sx.Ex.normal) [(0, Sx.AV.slc true false (Sx.AA.mk false (0 : Nat) (0 : Nat) (0 : Nat)) len), (1, Sx.AV.int true IntKind.i64 f), (6, Sx.AV.int true IntKind.i64 f)] [(0, Sx.ABk.cells false (1 : Nat) len (Sx.Cont.fn fun j => [Sx.AV.cpx true (re j) (im j)]))] (piececall2 Try.f12 (Sx.nav [1,1,0] (Sx.bodyOf Try.f12)) (Sx.frL [(0, Sx.slcV 0 len), (1, .int true .i64 f)]) (Sx.hpL [(0, .cells false 1 len (.fn fun j => [.cpx true (re j) (im j)]))]) 1 []) := Sx.eqn (q := True) (by kernel_rfl) trivial
theorem chC (B : Nat) (hB : B ≤ 1) (len : Nat) (f : Int) (re im : Nat → Nat) : Sx.GoesB Try.prog (Sx.nav [1,1,0] (Sx.bodyOf Try.f12)) Try.f12.ntmps B 1 1 (Sx.frL [(0, Sx.slcV 0 len), (1, .int true .i64 f)]) (Sx.hpL [(0, .cells false 1 len (.fn fun j => [.cpx true (re j) (im j)]))]) fun e fr' H' => (e = Sx.Ex.normal ∧ fr' = Sx.frL [(0, Sx.AV.slc true false (Sx.AA.mk false (0 : Nat) (0 : Nat) (0 : Nat)) len), (1, Sx.AV.int true IntKind.i64 f), (6, Sx.AV.int true IntKind.i64 f)] ∧ H' = Sx.hpL [(0, Sx.ABk.cells false (1 : Nat) len (Sx.Cont.fn fun j => [Sx.AV.cpx true (re j) (im j)]))]) := by
 exact (Sx.GoesB.runN call2_ok (call2_reg _) (Sx.LoopsIn.none _ _ _) (chC_r0 len f re im) hB).mono fun e fr' H' h => h
theorem chD_r0 (len : Nat) (f : Int) (re im : Nat → Nat) : Sx.PieceN 1 (Sx.Ex.normal) [(0, Sx.AV.slc true false (Sx.AA.mk false (0 : Nat) (0 : Nat) (0 : Nat)) len), (1, Sx.AV.int true IntKind.i64 f), (6, Sx.AV.int true IntKind.i64 f), (7, Sx.AV.bool true)] [(0, Sx.ABk.cells false (1 : Nat) len (Sx.Cont.fn fun j => [Sx.AV.cpx true (re j) (im j)]))] (piececall2 Try.f12 (Sx.nav [1,1,1,0] (Sx.bodyOf Try.f12)) (Sx.frL [(0, Sx.slcV 0 len), (1, .int true .i64 f), (6, .int true .i64 f)]) (Sx.hpL [(0, .cells false 1 len (.fn fun j => [.cpx true (re j) (im j)]))]) 1 []) := Sx.eqn (q := True) (by kernel_rfl) trivial
theorem chD (B : Nat) (hB : B ≤ 1) (len : Nat) (f : Int) (re im : Nat → Nat) : Sx.GoesB Try.prog (Sx.nav [1,1,1,0] (Sx.bodyOf Try.f12)) Try.f12.ntmps B 1 1 (Sx.frL [(0, Sx.slcV 0 len), (1, .int true .i64 f), (6, .int true .i64 f)]) (Sx.hpL [(0, .cells false 1 len (.fn fun j => [.cpx true (re j) (im j)]))]) fun e fr' H' => (e = Sx.Ex.normal ∧ fr' = Sx.frL [(0, Sx.AV.slc true false (Sx.AA.mk false (0 : Nat) (0 : Nat) (0 : Nat)) len), (1, Sx.AV.int true IntKind.i64 f), (6, Sx.AV.int true IntKind.i64 f), (7, Sx.AV.bool true)] ∧ H' = Sx.hpL [(0, Sx.ABk.cells false (1 : Nat) len (Sx.Cont.fn fun j => [Sx.AV.cpx true (re j) (im j)]))]) := by
 exact (Sx.GoesB.runN call2_ok (call2_reg _) (Sx.LoopsIn.none _ _ _) (chD_r0 len f re im) hB).mono fun e fr' H' h => h
theorem chE_r0 (len : Nat) (f : Int) (re im : Nat → Nat) : Sx.PieceN 1 (Sx.Ex.normal) [(0, Sx.AV.slc true false (Sx.AA.mk false (0 : Nat) (0 : Nat) (0 : Nat)) len), (6, Sx.AV.int true IntKind.i64 f), (7, Sx.AV.bool true), (8, Sx.AV.int true IntKind.i64 f)] [(0, Sx.ABk.cells false (1 : Nat) len (Sx.Cont.fn fun j => [Sx.AV.cpx true (re j) (im j)]))] (piececall2 Try.f12 (Sx.nav [1,1,1,1,0,0] (Sx.bodyOf Try.f12)) (Sx.frL [(0, Sx.slcV 0 len), (1, .int true .i64 f), (6, .int true .i64 f), (7, .bool true)]) (Sx.hpL [(0, .cells false 1 len (.fn fun j => [.cpx true (re j) (im j)]))]) 1 []) := Sx.eqn (q := True) (by kernel_rfl) trivial
theorem chE (B : Nat) (hB : B ≤ 1) (len : Nat) (f : Int) (re im : Nat → Nat) : Sx.GoesB Try.prog (Sx.nav [1,1,1,1,0,0] (Sx.bodyOf Try.f12)) Try.f12.ntmps B 1 1 (Sx.frL [(0, Sx.slcV 0 len), (1, .int true .i64 f), (6, .int true .i64 f), (7, .bool true)]) (Sx.hpL [(0, .cells false 1 len (.fn fun j => [.cpx true (re j) (im j)]))]) fun e fr' H' => (e = Sx.Ex.normal ∧ fr' = Sx.frL [(0, Sx.AV.slc true false (Sx.AA.mk false (0 : Nat) (0 : Nat) (0 : Nat)) len), (6, Sx.AV.int true IntKind.i64 f), (7, Sx.AV.bool true), (8, Sx.AV.int true IntKind.i64 f)] ∧ H' = Sx.hpL [(0, Sx.ABk.cells false (1 : Nat) len (Sx.Cont.fn fun j => [Sx.AV.cpx true (re j) (im j)]))]) := by
 exact (Sx.GoesB.runN call2_ok (call2_reg _) (Sx.LoopsIn.none _ _ _) (chE_r0 len f re im) hB).mono fun e fr' H' h => h
theorem chL_r0 (len i m : Nat) (z : Bool) (re im : Nat → Nat) (c0 : decide ((↑i : Int) < (↑len : Int)) = true) (c1 : (0 : Int) ≤ (↑i : Int)) (c2 : (↑i : Int) < (↑len : Int)) (c3 : (0 : Nat) + i < len) (c4 : (!fin_0 (re ((0 : Nat) + i)) (im ((0 : Nat) + i))) = false) (c5 : z = true) (c6 : (0 : Int) ≤ (↑m : Int)) (c7 : (↑m : Int) < (↑len : Int)) (c8 : (0 : Nat) + m < len) (c9 : Sx.fgt (Sx.fadd (Sx.fabs (re ((0 : Nat) + i))) (Sx.fabs (im ((0 : Nat) + i)))) (Sx.fadd (Sx.fabs (re ((0 : Nat) + m))) (Sx.fabs (im ((0 : Nat) + m)))) = true) (c10 : (-9223372036854775808 : Int) ≤ (↑i : Int) + (1 : Int)) (c11 : (↑i : Int) + (1 : Int) ≤ (9223372036854775807 : Int)) : Sx.PieceN 1 (Sx.Ex.normal) [(0, Sx.AV.slc true false (Sx.AA.mk false (0 : Nat) (0 : Nat) (0 : Nat)) len), (6, Sx.AV.int true IntKind.i64 (↑i : Int)), (7, Sx.AV.sbool (zer_0 (re ((0 : Nat) + i)) (im ((0 : Nat) + i)))), (8, Sx.AV.int true IntKind.i64 ((↑i : Int) + (1 : Int)))] [(0, Sx.ABk.cells false (1 : Nat) len (Sx.Cont.fn fun j => [Sx.AV.cpx true (re j) (im j)]))] (piececall2 Try.f12 (Sx.nav [1,1,1,1,0,1,0,0] (Sx.bodyOf Try.f12)) (Sx.frL [(0, Sx.slcV 0 len), (6, .int true .i64 m), (7, .sbool z), (8, .int true .i64 i)]) (Sx.hpL [(0, .cells false 1 len (.fn fun j => [.cpx true (re j) (im j)]))]) 1 [true, false, true, true]) := Sx.eqn (q := (((((((((((((True ∧ (decide ((↑i : Int) < (↑len : Int)) = true)) ∧ (((0 : Int) ≤ (↑i : Int)) ∧ ((↑i : Int) < (↑len : Int)))) ∧ ((0 : Nat) + i < len)) ∧ ((!fin_0 (re ((0 : Nat) + i)) (im ((0 : Nat) + i))) = false)) ∧ (z = true)) ∧ (((0 : Int) ≤ (↑i : Int)) ∧ ((↑i : Int) < (↑len : Int)))) ∧ ((0 : Nat) + i < len)) ∧ (((0 : Int) ≤ (↑i : Int)) ∧ ((↑i : Int) < (↑len : Int)))) ∧ ((0 : Nat) + i < len)) ∧ (((0 : Int) ≤ (↑m : Int)) ∧ ((↑m : Int) < (↑len : Int)))) ∧ ((0 : Nat) + m < len)) ∧ (Sx.fgt (Sx.fadd (Sx.fabs (re ((0 : Nat) + i))) (Sx.fabs (im ((0 : Nat) + i)))) (Sx.fadd (Sx.fabs (re ((0 : Nat) + m))) (Sx.fabs (im ((0 : Nat) + m)))) = true)) ∧ (((-9223372036854775808 : Int) ≤ (↑i : Int) + (1 : Int)) ∧ ((↑i : Int) + (1 : Int) ≤ (9223372036854775807 : Int))))) (by kernel_rfl) ⟨⟨⟨⟨⟨⟨⟨⟨⟨⟨⟨⟨⟨trivial, c0⟩, ⟨c1, c2⟩⟩, c3⟩, c4⟩, c5⟩, ⟨c1, c2⟩⟩, c3⟩, ⟨c1, c2⟩⟩, c3⟩, ⟨c6, c7⟩⟩, c8⟩, c9⟩, ⟨c10, c11⟩⟩
theorem chL_r1 (len i m : Nat) (z : Bool) (re im : Nat → Nat) (c0 : decide ((↑i : Int) < (↑len : Int)) = true) (c1 : (0 : Int) ≤ (↑i : Int)) (c2 : (↑i : Int) < (↑len : Int)) (c3 : (0 : Nat) + i < len) (c4 : (!fin_0 (re ((0 : Nat) + i)) (im ((0 : Nat) + i))) = false) (c5 : z = true) (c6 : (0 : Int) ≤ (↑m : Int)) (c7 : (↑m : Int) < (↑len : Int)) (c8 : (0 : Nat) + m < len) (c9 : Sx.fgt (Sx.fadd (Sx.fabs (re ((0 : Nat) + i))) (Sx.fabs (im ((0 : Nat) + i)))) (Sx.fadd (Sx.fabs (re ((0 : Nat) + m))) (Sx.fabs (im ((0 : Nat) + m)))) = false) (c10 : (-9223372036854775808 : Int) ≤ (↑i : Int) + (1 : Int)) (c11 : (↑i : Int) + (1 : Int) ≤ (9223372036854775807 : Int)) : Sx.PieceN 1 (Sx.Ex.normal) [(0, Sx.AV.slc true false (Sx.AA.mk false (0 : Nat) (0 : Nat) (0 : Nat)) len), (6, Sx.AV.int true IntKind.i64 (↑m : Int)), (7, Sx.AV.sbool (zer_0 (re ((0 : Nat) + i)) (im ((0 : Nat) + i)))), (8, Sx.AV.int true IntKind.i64 ((↑i : Int) + (1 : Int)))] [(0, Sx.ABk.cells false (1 : Nat) len (Sx.Cont.fn fun j => [Sx.AV.cpx true (re j) (im j)]))] (piececall2 Try.f12 (Sx.nav [1,1,1,1,0,1,0,0] (Sx.bodyOf Try.f12)) (Sx.frL [(0, Sx.slcV 0 len), (6, .int true .i64 m), (7, .sbool z), (8, .int true .i64 i)]) (Sx.hpL [(0, .cells false 1 len (.fn fun j => [.cpx true (re j) (im j)]))]) 1 [true, false, true, false]) := Sx.eqn (q := (((((((((((((True ∧ (decide ((↑i : Int) < (↑len : Int)) = true)) ∧ (((0 : Int) ≤ (↑i : Int)) ∧ ((↑i : Int) < (↑len : Int)))) ∧ ((0 : Nat) + i < len)) ∧ ((!fin_0 (re ((0 : Nat) + i)) (im ((0 : Nat) + i))) = false)) ∧ (z = true)) ∧ (((0 : Int) ≤ (↑i : Int)) ∧ ((↑i : Int) < (↑len : Int)))) ∧ ((0 : Nat) + i < len)) ∧ (((0 : Int) ≤ (↑i : Int)) ∧ ((↑i : Int) < (↑len : Int)))) ∧ ((0 : Nat) + i < len)) ∧ (((0 : Int) ≤ (↑m : Int)) ∧ ((↑m : Int) < (↑len : Int)))) ∧ ((0 : Nat) + m < len)) ∧ (Sx.fgt (Sx.fadd (Sx.fabs (re ((0 : Nat) + i))) (Sx.fabs (im ((0 : Nat) + i)))) (Sx.fadd (Sx.fabs (re ((0 : Nat) + m))) (Sx.fabs (im ((0 : Nat) + m)))) = false)) ∧ (((-9223372036854775808 : Int) ≤ (↑i : Int) + (1 : Int)) ∧ ((↑i : Int) + (1 : Int) ≤ (9223372036854775807 : Int))))) (by kernel_rfl) ⟨⟨⟨⟨⟨⟨⟨⟨⟨⟨⟨⟨⟨trivial, c0⟩, ⟨c1, c2⟩⟩, c3⟩, c4⟩, c5⟩, ⟨c1, c2⟩⟩, c3⟩, ⟨c1, c2⟩⟩, c3⟩, ⟨c6, c7⟩⟩, c8⟩, c9⟩, ⟨c10, c11⟩⟩
theorem chL_r2 (len i m : Nat) (z : Bool) (re im : Nat → Nat) (c0 : decide ((↑i : Int) < (↑len : Int)) = true) (c1 : (0 : Int) ≤ (↑i : Int)) (c2 : (↑i : Int) < (↑len : Int)) (c3 : (0 : Nat) + i < len) (c4 : (!fin_0 (re ((0 : Nat) + i)) (im ((0 : Nat) + i))) = false) (c5 : z = false) (c6 : (0 : Int) ≤ (↑m : Int)) (c7 : (↑m : Int) < (↑len : Int)) (c8 : (0 : Nat) + m < len) (c9 : Sx.fgt (Sx.fadd (Sx.fabs (re ((0 : Nat) + i))) (Sx.fabs (im ((0 : Nat) + i)))) (Sx.fadd (Sx.fabs (re ((0 : Nat) + m))) (Sx.fabs (im ((0 : Nat) + m)))) = true) (c10 : (-9223372036854775808 : Int) ≤ (↑i : Int) + (1 : Int)) (c11 : (↑i : Int) + (1 : Int) ≤ (9223372036854775807 : Int)) : Sx.PieceN 1 (Sx.Ex.normal) [(0, Sx.AV.slc true false (Sx.AA.mk false (0 : Nat) (0 : Nat) (0 : Nat)) len), (6, Sx.AV.int true IntKind.i64 (↑i : Int)), (7, Sx.AV.bool false), (8, Sx.AV.int true IntKind.i64 ((↑i : Int) + (1 : Int)))] [(0, Sx.ABk.cells false (1 : Nat) len (Sx.Cont.fn fun j => [Sx.AV.cpx true (re j) (im j)]))] (piececall2 Try.f12 (Sx.nav [1,1,1,1,0,1,0,0] (Sx.bodyOf Try.f12)) (Sx.frL [(0, Sx.slcV 0 len), (6, .int true .i64 m), (7, .sbool z), (8, .int true .i64 i)]) (Sx.hpL [(0, .cells false 1 len (.fn fun j => [.cpx true (re j) (im j)]))]) 1 [true, false, false, true]) := Sx.eqn (q := (((((((((((True ∧ (decide ((↑i : Int) < (↑len : Int)) = true)) ∧ (((0 : Int) ≤ (↑i : Int)) ∧ ((↑i : Int) < (↑len : Int)))) ∧ ((0 : Nat) + i < len)) ∧ ((!fin_0 (re ((0 : Nat) + i)) (im ((0 : Nat) + i))) = false)) ∧ (z = false)) ∧ (((0 : Int) ≤ (↑i : Int)) ∧ ((↑i : Int) < (↑len : Int)))) ∧ ((0 : Nat) + i < len)) ∧ (((0 : Int) ≤ (↑m : Int)) ∧ ((↑m : Int) < (↑len : Int)))) ∧ ((0 : Nat) + m < len)) ∧ (Sx.fgt (Sx.fadd (Sx.fabs (re ((0 : Nat) + i))) (Sx.fabs (im ((0 : Nat) + i)))) (Sx.fadd (Sx.fabs (re ((0 : Nat) + m))) (Sx.fabs (im ((0 : Nat) + m)))) = true)) ∧ (((-9223372036854775808 : Int) ≤ (↑i : Int) + (1 : Int)) ∧ ((↑i : Int) + (1 : Int) ≤ (9223372036854775807 : Int))))) (by kernel_rfl) ⟨⟨⟨⟨⟨⟨⟨⟨⟨⟨⟨trivial, c0⟩, ⟨c1, c2⟩⟩, c3⟩, c4⟩, c5⟩, ⟨c1, c2⟩⟩, c3⟩, ⟨c6, c7⟩⟩, c8⟩, c9⟩, ⟨c10, c11⟩⟩
theorem chL_r3 (len i m : Nat) (z : Bool) (re im : Nat → Nat) (c0 : decide ((↑i : Int) < (↑len : Int)) = true) (c1 : (0 : Int) ≤ (↑i : Int)) (c2 : (↑i : Int) < (↑len : Int)) (c3 : (0 : Nat) + i < len) (c4 : (!fin_0 (re ((0 : Nat) + i)) (im ((0 : Nat) + i))) = false) (c5 : z = false) (c6 : (0 : Int) ≤ (↑m : Int)) (c7 : (↑m : Int) < (↑len : Int)) (c8 : (0 : Nat) + m < len) (c9 : Sx.fgt (Sx.fadd (Sx.fabs (re ((0 : Nat) + i))) (Sx.fabs (im ((0 : Nat) + i)))) (Sx.fadd (Sx.fabs (re ((0 : Nat) + m))) (Sx.fabs (im ((0 : Nat) + m)))) = false) (c10 : (-9223372036854775808 : Int) ≤ (↑i : Int) + (1 : Int)) (c11 : (↑i : Int) + (1 : Int) ≤ (9223372036854775807 : Int)) : Sx.PieceN 1 (Sx.Ex.normal) [(0, Sx.AV.slc true false (Sx.AA.mk false (0 : Nat) (0 : Nat) (0 : Nat)) len), (6, Sx.AV.int true IntKind.i64 (↑m : Int)), (7, Sx.AV.bool false), (8, Sx.AV.int true IntKind.i64 ((↑i : Int) + (1 : Int)))] [(0, Sx.ABk.cells false (1 : Nat) len (Sx.Cont.fn fun j => [Sx.AV.cpx true (re j) (im j)]))] (piececall2 Try.f12 (Sx.nav [1,1,1,1,0,1,0,0] (Sx.bodyOf Try.f12)) (Sx.frL [(0, Sx.slcV 0 len), (6, .int true .i64 m), (7, .sbool z), (8, .int true .i64 i)]) (Sx.hpL [(0, .cells false 1 len (.fn fun j => [.cpx true (re j) (im j)]))]) 1 [true, false, false, false]) := Sx.eqn (q := (((((((((((True ∧ (decide ((↑i : Int) < (↑len : Int)) = true)) ∧ (((0 : Int) ≤ (↑i : Int)) ∧ ((↑i : Int) < (↑len : Int)))) ∧ ((0 : Nat) + i < len)) ∧ ((!fin_0 (re ((0 : Nat) + i)) (im ((0 : Nat) + i))) = false)) ∧ (z = false)) ∧ (((0 : Int) ≤ (↑i : Int)) ∧ ((↑i : Int) < (↑len : Int)))) ∧ ((0 : Nat) + i < len)) ∧ (((0 : Int) ≤ (↑m : Int)) ∧ ((↑m : Int) < (↑len : Int)))) ∧ ((0 : Nat) + m < len)) ∧ (Sx.fgt (Sx.fadd (Sx.fabs (re ((0 : Nat) + i))) (Sx.fabs (im ((0 : Nat) + i)))) (Sx.fadd (Sx.fabs (re ((0 : Nat) + m))) (Sx.fabs (im ((0 : Nat) + m)))) = false)) ∧ (((-9223372036854775808 : Int) ≤ (↑i : Int) + (1 : Int)) ∧ ((↑i : Int) + (1 : Int) ≤ (9223372036854775807 : Int))))) (by kernel_rfl) ⟨⟨⟨⟨⟨⟨⟨⟨⟨⟨⟨trivial, c0⟩, ⟨c1, c2⟩⟩, c3⟩, c4⟩, c5⟩, ⟨c1, c2⟩⟩, c3⟩, ⟨c6, c7⟩⟩, c8⟩, c9⟩, ⟨c10, c11⟩⟩
theorem chL_r4 (len i m : Nat) (z : Bool) (re im : Nat → Nat) (c0 : decide ((↑i : Int) < (↑len : Int)) = true) (c1 : (0 : Int) ≤ (↑i : Int)) (c2 : (↑i : Int) < (↑len : Int)) (c3 : (0 : Nat) + i < len) (c4 : (!fin_0 (re ((0 : Nat) + i)) (im ((0 : Nat) + i))) = true) : Sx.PieceN 1 (Sx.Ex.ret) [(0, Sx.AV.slc true false (Sx.AA.mk false (0 : Nat) (0 : Nat) (0 : Nat)) len), (4, Sx.AV.int false IntKind.i64 (0 : Int)), (5, Sx.AV.int false IntKind.i64 (5 : Int)), (6, Sx.AV.int true IntKind.i64 (↑m : Int)), (7, Sx.AV.sbool z), (8, Sx.AV.int true IntKind.i64 (↑i : Int))] [(0, Sx.ABk.cells false (1 : Nat) len (Sx.Cont.fn fun j => [Sx.AV.cpx true (re j) (im j)]))] (piececall2 Try.f12 (Sx.nav [1,1,1,1,0,1,0,0] (Sx.bodyOf Try.f12)) (Sx.frL [(0, Sx.slcV 0 len), (6, .int true .i64 m), (7, .sbool z), (8, .int true .i64 i)]) (Sx.hpL [(0, .cells false 1 len (.fn fun j => [.cpx true (re j) (im j)]))]) 1 [true, true]) := Sx.eqn (q := ((((True ∧ (decide ((↑i : Int) < (↑len : Int)) = true)) ∧ (((0 : Int) ≤ (↑i : Int)) ∧ ((↑i : Int) < (↑len : Int)))) ∧ ((0 : Nat) + i < len)) ∧ ((!fin_0 (re ((0 : Nat) + i)) (im ((0 : Nat) + i))) = true))) (by kernel_rfl) ⟨⟨⟨⟨trivial, c0⟩, ⟨c1, c2⟩⟩, c3⟩, c4⟩
theorem chL_r5 (len i m : Nat) (z : Bool) (re im : Nat → Nat) (c0 : decide ((↑i : Int) < (↑len : Int)) = false) : Sx.PieceN 1 (Sx.Ex.exit (1 : Nat)) [(0, Sx.AV.slc true false (Sx.AA.mk false (0 : Nat) (0 : Nat) (0 : Nat)) len), (6, Sx.AV.int true IntKind.i64 (↑m : Int)), (7, Sx.AV.sbool z), (8, Sx.AV.int true IntKind.i64 (↑i : Int))] [(0, Sx.ABk.cells false (1 : Nat) len (Sx.Cont.fn fun j => [Sx.AV.cpx true (re j) (im j)]))] (piececall2 Try.f12 (Sx.nav [1,1,1,1,0,1,0,0] (Sx.bodyOf Try.f12)) (Sx.frL [(0, Sx.slcV 0 len), (6, .int true .i64 m), (7, .sbool z), (8, .int true .i64 i)]) (Sx.hpL [(0, .cells false 1 len (.fn fun j => [.cpx true (re j) (im j)]))]) 1 [false]) := Sx.eqn (q := (True ∧ (decide ((↑i : Int) < (↑len : Int)) = false))) (by kernel_rfl) ⟨trivial, c0⟩
theorem chL (B : Nat) (hB : B ≤ 1) (len i m : Nat) (z : Bool) (re im : Nat → Nat) (x0 : ((decide ((↑i : Int) < (↑len : Int))) = true → ((fin_0 (re ((0 : Nat) + i)) (im ((0 : Nat) + i))) = true → ((↑m : Int) < (↑len : Int))))) (x1 : ((decide ((↑i : Int) < (↑len : Int))) = true → ((fin_0 (re ((0 : Nat) + i)) (im ((0 : Nat) + i))) = true → ((0 : Nat) + m < len)))) (x2 : ((decide ((↑i : Int) < (↑len : Int))) = true → ((fin_0 (re ((0 : Nat) + i)) (im ((0 : Nat) + i))) = true → ((↑i : Int) + (1 : Int) ≤ (9223372036854775807 : Int))))) : Sx.GoesB Try.prog (Sx.nav [1,1,1,1,0,1,0,0] (Sx.bodyOf Try.f12)) Try.f12.ntmps B 1 1 (Sx.frL [(0, Sx.slcV 0 len), (6, .int true .i64 m), (7, .sbool z), (8, .int true .i64 i)]) (Sx.hpL [(0, .cells false 1 len (.fn fun j => [.cpx true (re j) (im j)]))]) fun e fr' H' => (cond (decide ((↑i : Int) < (↑len : Int))) (cond (fin_0 (re ((0 : Nat) + i)) (im ((0 : Nat) + i))) (cond (z) (cond (Sx.fgt (Sx.fadd (Sx.fabs (re ((0 : Nat) + i))) (Sx.fabs (im ((0 : Nat) + i)))) (Sx.fadd (Sx.fabs (re ((0 : Nat) + m))) (Sx.fabs (im ((0 : Nat) + m))))) (e = Sx.Ex.normal ∧ fr' = Sx.frL [(0, Sx.AV.slc true false (Sx.AA.mk false (0 : Nat) (0 : Nat) (0 : Nat)) len), (6, Sx.AV.int true IntKind.i64 (↑i : Int)), (7, Sx.AV.sbool (zer_0 (re ((0 : Nat) + i)) (im ((0 : Nat) + i)))), (8, Sx.AV.int true IntKind.i64 ((↑i : Int) + (1 : Int)))] ∧ H' = Sx.hpL [(0, Sx.ABk.cells false (1 : Nat) len (Sx.Cont.fn fun j => [Sx.AV.cpx true (re j) (im j)]))]) (e = Sx.Ex.normal ∧ fr' = Sx.frL [(0, Sx.AV.slc true false (Sx.AA.mk false (0 : Nat) (0 : Nat) (0 : Nat)) len), (6, Sx.AV.int true IntKind.i64 (↑m : Int)), (7, Sx.AV.sbool (zer_0 (re ((0 : Nat) + i)) (im ((0 : Nat) + i)))), (8, Sx.AV.int true IntKind.i64 ((↑i : Int) + (1 : Int)))] ∧ H' = Sx.hpL [(0, Sx.ABk.cells false (1 : Nat) len (Sx.Cont.fn fun j => [Sx.AV.cpx true (re j) (im j)]))])) (cond (Sx.fgt (Sx.fadd (Sx.fabs (re ((0 : Nat) + i))) (Sx.fabs (im ((0 : Nat) + i)))) (Sx.fadd (Sx.fabs (re ((0 : Nat) + m))) (Sx.fabs (im ((0 : Nat) + m))))) (e = Sx.Ex.normal ∧ fr' = Sx.frL [(0, Sx.AV.slc true false (Sx.AA.mk false (0 : Nat) (0 : Nat) (0 : Nat)) len), (6, Sx.AV.int true IntKind.i64 (↑i : Int)), (7, Sx.AV.bool false), (8, Sx.AV.int true IntKind.i64 ((↑i : Int) + (1 : Int)))] ∧ H' = Sx.hpL [(0, Sx.ABk.cells false (1 : Nat) len (Sx.Cont.fn fun j => [Sx.AV.cpx true (re j) (im j)]))]) (e = Sx.Ex.normal ∧ fr' = Sx.frL [(0, Sx.AV.slc true false (Sx.AA.mk false (0 : Nat) (0 : Nat) (0 : Nat)) len), (6, Sx.AV.int true IntKind.i64 (↑m : Int)), (7, Sx.AV.bool false), (8, Sx.AV.int true IntKind.i64 ((↑i : Int) + (1 : Int)))] ∧ H' = Sx.hpL [(0, Sx.ABk.cells false (1 : Nat) len (Sx.Cont.fn fun j => [Sx.AV.cpx true (re j) (im j)]))]))) (e = Sx.Ex.ret ∧ fr' = Sx.frL [(0, Sx.AV.slc true false (Sx.AA.mk false (0 : Nat) (0 : Nat) (0 : Nat)) len), (4, Sx.AV.int false IntKind.i64 (0 : Int)), (5, Sx.AV.int false IntKind.i64 (5 : Int)), (6, Sx.AV.int true IntKind.i64 (↑m : Int)), (7, Sx.AV.sbool z), (8, Sx.AV.int true IntKind.i64 (↑i : Int))] ∧ H' = Sx.hpL [(0, Sx.ABk.cells false (1 : Nat) len (Sx.Cont.fn fun j => [Sx.AV.cpx true (re j) (im j)]))])) (e = Sx.Ex.exit (1 : Nat) ∧ fr' = Sx.frL [(0, Sx.AV.slc true false (Sx.AA.mk false (0 : Nat) (0 : Nat) (0 : Nat)) len), (6, Sx.AV.int true IntKind.i64 (↑m : Int)), (7, Sx.AV.sbool z), (8, Sx.AV.int true IntKind.i64 (↑i : Int))] ∧ H' = Sx.hpL [(0, Sx.ABk.cells false (1 : Nat) len (Sx.Cont.fn fun j => [Sx.AV.cpx true (re j) (im j)]))])) := by
 cases t0 : decide ((↑i : Int) < (↑len : Int)) with
 | true =>
  cases t1 : fin_0 (re ((0 : Nat) + i)) (im ((0 : Nat) + i)) with
  | true =>
   rcases Bool.eq_false_or_eq_true (z) with t2 | t2
   ·
    cases t3 : Sx.fgt (Sx.fadd (Sx.fabs (re ((0 : Nat) + i))) (Sx.fabs (im ((0 : Nat) + i)))) (Sx.fadd (Sx.fabs (re ((0 : Nat) + m))) (Sx.fabs (im ((0 : Nat) + m)))) with
    | true =>
     exact (Sx.GoesB.runN call2_ok (call2_reg _) (Sx.LoopsIn.none _ _ _) (chL_r0 len i m z re im t0 (by first | decide | ((try simp only [decide_eq_true_eq, decide_eq_false_iff_not] at t0 t1 t2 t3); (try simp only [List.length_take, List.length_drop]); omega)) (by first | decide | ((try simp only [decide_eq_true_eq, decide_eq_false_iff_not] at t0 t1 t2 t3); (try simp only [List.length_take, List.length_drop]); omega)) (by first | decide | ((try simp only [decide_eq_true_eq, decide_eq_false_iff_not] at t0 t1 t2 t3); (try simp only [List.length_take, List.length_drop]); omega)) (by rw [t1]; rfl) t2 (by first | decide | ((try simp only [decide_eq_true_eq, decide_eq_false_iff_not] at t0 t1 t2 t3); (try simp only [List.length_take, List.length_drop]); omega)) (x0 t0 t1) (x1 t0 t1) t3 (by first | decide | ((try simp only [decide_eq_true_eq, decide_eq_false_iff_not] at t0 t1 t2 t3); (try simp only [List.length_take, List.length_drop]); omega)) (x2 t0 t1)) hB).mono fun e fr' H' h => by simp only [t0, t1, t2, t3, cond_true, cond_false]; exact h
    | false =>
     exact (Sx.GoesB.runN call2_ok (call2_reg _) (Sx.LoopsIn.none _ _ _) (chL_r1 len i m z re im t0 (by first | decide | ((try simp only [decide_eq_true_eq, decide_eq_false_iff_not] at t0 t1 t2 t3); (try simp only [List.length_take, List.length_drop]); omega)) (by first | decide | ((try simp only [decide_eq_true_eq, decide_eq_false_iff_not] at t0 t1 t2 t3); (try simp only [List.length_take, List.length_drop]); omega)) (by first | decide | ((try simp only [decide_eq_true_eq, decide_eq_false_iff_not] at t0 t1 t2 t3); (try simp only [List.length_take, List.length_drop]); omega)) (by rw [t1]; rfl) t2 (by first | decide | ((try simp only [decide_eq_true_eq, decide_eq_false_iff_not] at t0 t1 t2 t3); (try simp only [List.length_take, List.length_drop]); omega)) (x0 t0 t1) (x1 t0 t1) t3 (by first | decide | ((try simp only [decide_eq_true_eq, decide_eq_false_iff_not] at t0 t1 t2 t3); (try simp only [List.length_take, List.length_drop]); omega)) (x2 t0 t1)) hB).mono fun e fr' H' h => by simp only [t0, t1, t2, t3, cond_true, cond_false]; exact h
   ·
    cases t3 : Sx.fgt (Sx.fadd (Sx.fabs (re ((0 : Nat) + i))) (Sx.fabs (im ((0 : Nat) + i)))) (Sx.fadd (Sx.fabs (re ((0 : Nat) + m))) (Sx.fabs (im ((0 : Nat) + m)))) with
    | true =>
     exact (Sx.GoesB.runN call2_ok (call2_reg _) (Sx.LoopsIn.none _ _ _) (chL_r2 len i m z re im t0 (by first | decide | ((try simp only [decide_eq_true_eq, decide_eq_false_iff_not] at t0 t1 t2 t3); (try simp only [List.length_take, List.length_drop]); omega)) (by first | decide | ((try simp only [decide_eq_true_eq, decide_eq_false_iff_not] at t0 t1 t2 t3); (try simp only [List.length_take, List.length_drop]); omega)) (by first | decide | ((try simp only [decide_eq_true_eq, decide_eq_false_iff_not] at t0 t1 t2 t3); (try simp only [List.length_take, List.length_drop]); omega)) (by rw [t1]; rfl) t2 (by first | decide | ((try simp only [decide_eq_true_eq, decide_eq_false_iff_not] at t0 t1 t2 t3); (try simp only [List.length_take, List.length_drop]); omega)) (x0 t0 t1) (x1 t0 t1) t3 (by first | decide | ((try simp only [decide_eq_true_eq, decide_eq_false_iff_not] at t0 t1 t2 t3); (try simp only [List.length_take, List.length_drop]); omega)) (x2 t0 t1)) hB).mono fun e fr' H' h => by simp only [t0, t1, t2, t3, cond_true, cond_false]; exact h
    | false =>
     exact (Sx.GoesB.runN call2_ok (call2_reg _) (Sx.LoopsIn.none _ _ _) (chL_r3 len i m z re im t0 (by first | decide | ((try simp only [decide_eq_true_eq, decide_eq_false_iff_not] at t0 t1 t2 t3); (try simp only [List.length_take, List.length_drop]); omega)) (by first | decide | ((try simp only [decide_eq_true_eq, decide_eq_false_iff_not] at t0 t1 t2 t3); (try simp only [List.length_take, List.length_drop]); omega)) (by first | decide | ((try simp only [decide_eq_true_eq, decide_eq_false_iff_not] at t0 t1 t2 t3); (try simp only [List.length_take, List.length_drop]); omega)) (by rw [t1]; rfl) t2 (by first | decide | ((try simp only [decide_eq_true_eq, decide_eq_false_iff_not] at t0 t1 t2 t3); (try simp only [List.length_take, List.length_drop]); omega)) (x0 t0 t1) (x1 t0 t1) t3 (by first | decide | ((try simp only [decide_eq_true_eq, decide_eq_false_iff_not] at t0 t1 t2 t3); (try simp only [List.length_take, List.length_drop]); omega)) (x2 t0 t1)) hB).mono fun e fr' H' h => by simp only [t0, t1, t2, t3, cond_true, cond_false]; exact h
  | false =>
   exact (Sx.GoesB.runN call2_ok (call2_reg _) (Sx.LoopsIn.none _ _ _) (chL_r4 len i m z re im t0 (by first | decide | ((try simp only [decide_eq_true_eq, decide_eq_false_iff_not] at t0 t1); (try simp only [List.length_take, List.length_drop]); omega)) (by first | decide | ((try simp only [decide_eq_true_eq, decide_eq_false_iff_not] at t0 t1); (try simp only [List.length_take, List.length_drop]); omega)) (by first | decide | ((try simp only [decide_eq_true_eq, decide_eq_false_iff_not] at t0 t1); (try simp only [List.length_take, List.length_drop]); omega)) (by rw [t1]; rfl)) hB).mono fun e fr' H' h => by simp only [t0, t1, cond_true, cond_false]; exact h
 | false =>
  exact (Sx.GoesB.runN call2_ok (call2_reg _) (Sx.LoopsIn.none _ _ _) (chL_r5 len i m z re im t0) hB).mono fun e fr' H' h => by simp only [t0, cond_true, cond_false]; exact h
theorem chZ_r0 (m : Nat) (z : Bool) (c0 : z = true) : Sx.PieceN 1 (Sx.Ex.ret) [(4, Sx.AV.int false IntKind.i64 (0 : Int)), (5, Sx.AV.int false IntKind.i64 (7 : Int))] [] (piececall2 Try.f12 (Sx.nav [1,1,1,1,1] (Sx.bodyOf Try.f12)) (Sx.frL [(6, .int true .i64 m), (7, .sbool z)]) (Sx.hpL []) 1 [true]) := Sx.eqn (q := (True ∧ (z = true))) (by kernel_rfl) ⟨trivial, c0⟩
theorem chZ_r1 (m : Nat) (z : Bool) (c0 : z = false) : Sx.PieceN 1 (Sx.Ex.ret) [(4, Sx.AV.int true IntKind.i64 (↑m : Int)), (5, Sx.AV.int false IntKind.i64 (0 : Int))] [] (piececall2 Try.f12 (Sx.nav [1,1,1,1,1] (Sx.bodyOf Try.f12)) (Sx.frL [(6, .int true .i64 m), (7, .sbool z)]) (Sx.hpL []) 1 [false]) := Sx.eqn (q := (True ∧ (z = false))) (by kernel_rfl) ⟨trivial, c0⟩
theorem chZ (B : Nat) (hB : B ≤ 1) (m : Nat) (z : Bool) : Sx.GoesB Try.prog (Sx.nav [1,1,1,1,1] (Sx.bodyOf Try.f12)) Try.f12.ntmps B 1 1 (Sx.frL [(6, .int true .i64 m), (7, .sbool z)]) (Sx.hpL []) fun e fr' H' => (cond (z) (e = Sx.Ex.ret ∧ fr' = Sx.frL [(4, Sx.AV.int false IntKind.i64 (0 : Int)), (5, Sx.AV.int false IntKind.i64 (7 : Int))] ∧ H' = Sx.hpL []) (e = Sx.Ex.ret ∧ fr' = Sx.frL [(4, Sx.AV.int true IntKind.i64 (↑m : Int)), (5, Sx.AV.int false IntKind.i64 (0 : Int))] ∧ H' = Sx.hpL [])) := by
 rcases Bool.eq_false_or_eq_true (z) with t0 | t0
 ·
  exact (Sx.GoesB.runN call2_ok (call2_reg _) (Sx.LoopsIn.none _ _ _) (chZ_r0 m z t0) hB).mono fun e fr' H' h => by simp only [t0, cond_true, cond_false]; exact h
 ·
  exact (Sx.GoesB.runN call2_ok (call2_reg _) (Sx.LoopsIn.none _ _ _) (chZ_r1 m z t0) hB).mono fun e fr' H' h => by simp only [t0, cond_true, cond_false]; exact h
noncomputable def cfin (re im : Nat → Nat) (j : Nat) : Bool := fin_0 (re j) (im j)
noncomputable def czer (re im : Nat → Nat) (j : Nat) : Bool := zer_0 (re j) (im j)
noncomputable def cgt (re im : Nat → Nat) (k i : Nat) : Bool := Sx.fgt (Sx.size1 (re k) (im k)) (Sx.size1 (re i) (im i))
noncomputable def chR (len : Nat) (f : Int) (re im : Nat → Nat) : Int × Int :=
 bif decide ((64 : Int) < (len : Int)) then (0, 3) else bif decide (f < 0) then (0, 2) else bif decide ((len : Int) ≤ f) then (0, 2) else
 bif Sx.cd (∀ j, f.toNat ≤ j → j < f.toNat + (len - f.toNat) → cfin re im j = true) then
  (bif Sx.cd (∀ j, f.toNat ≤ j → j < f.toNat + (len - f.toNat) → czer re im j = true) then (0, 7) else ((Sx.bst (cgt re im) f.toNat (len - f.toNat) : Nat), 0))
 else (0, 5)
theorem chR_congr {len : Nat} {f : Int} {re im re' im' : Nat → Nat} (h : ∀ j, j < len → re j = re' j ∧ im j = im' j) : chR len f re im = chR len f re' im' := by
 have e1 : Sx.cd (∀ j, f.toNat ≤ j → j < f.toNat + (len - f.toNat) → cfin re im j = true) = Sx.cd (∀ j, f.toNat ≤ j → j < f.toNat + (len - f.toNat) → cfin re' im' j = true) :=
  Sx.cd_congr ⟨fun hh j a b => by have := hh j a b; unfold cfin at this ⊢; rw [← (h j (by omega)).1, ← (h j (by omega)).2]; exact this, fun hh j a b => by have := hh j a b; unfold cfin at this ⊢; rw [(h j (by omega)).1, (h j (by omega)).2]; exact this⟩
 have e2 : Sx.cd (∀ j, f.toNat ≤ j → j < f.toNat + (len - f.toNat) → czer re im j = true) = Sx.cd (∀ j, f.toNat ≤ j → j < f.toNat + (len - f.toNat) → czer re' im' j = true) :=
  Sx.cd_congr ⟨fun hh j a b => by have := hh j a b; unfold czer at this ⊢; rw [← (h j (by omega)).1, ← (h j (by omega)).2]; exact this, fun hh j a b => by have := hh j a b; unfold czer at this ⊢; rw [(h j (by omega)).1, (h j (by omega)).2]; exact this⟩
 have e3 : Sx.bst (cgt re im) f.toNat (len - f.toNat) = Sx.bst (cgt re' im') f.toNat (len - f.toNat) := Sx.bst_congr fun k i a b c d => by
  unfold cgt
  rw [(h k (by omega)).1, (h k (by omega)).2, (h i (by omega)).1, (h i (by omega)).2]
 unfold chR
 rw [e1, e2, e3]
def chQ (len : Nat) (f : Int) (re im : Nat → Nat) (t t' : Nat) : Sx.Po := fun e fr H => (e = .ret ∨ e = .normal) ∧ ∃ u v, fr.get t = some u ∧ fr.get t' = some v ∧ Sx.AV.ge u (.int true .i64 (chR len f re im).1) ∧ Sx.AV.ge v (.int true .i64 (chR len f re im).2)
theorem ch_q {len : Nat} {f : Int} {re im : Nat → Nat} {s s' : Bool} {a b : Int} (h : chR len f re im = (a, b)) : Sx.AV.ge (.int s .i64 a) (.int true .i64 (chR len f re im).1) ∧ Sx.AV.ge (.int s' .i64 b) (.int true .i64 (chR len f re im).2) := by
 rw [h]; exact ⟨Sx.AV.ge.int _ _ _ _, Sx.AV.ge.int _ _ _ _⟩
def chI (len fN : Nat) (re im : Nat → Nat) (k : Nat) (fr : Sx.Fr) (H : Sx.T Sx.ABk) : Prop :=
 ∃ n : Nat, k = len - (fN + n) ∧ fN + n ≤ len ∧ (∀ j, fN ≤ j → j < fN + n → cfin re im j = true) ∧ fr = Sx.frL [(0, Sx.slcV 0 len), (6, .int true .i64 (Sx.bst (cgt re im) fN (n) : Nat)), (7, .sbool (Sx.cd (∀ j, fN ≤ j → j < fN + (n) → czer re im j = true))), (8, .int true .i64 ((fN + (n) : Nat) : Int))] ∧ H = Sx.hpL [(0, .cells false 1 len (.fn fun j => [.cpx true (re j) (im j)]))]
def chP (len fN : Nat) (re im : Nat → Nat) : Sx.Po := fun e fr H => (e = .exit 1 ∧ (∀ j, fN ≤ j → j < fN + (len - fN) → cfin re im j = true) ∧ fr = Sx.frL [(6, .int true .i64 (Sx.bst (cgt re im) fN (len - fN) : Nat)), (7, .sbool (Sx.cd (∀ j, fN ≤ j → j < fN + (len - fN) → czer re im j = true)))] ∧ H = Sx.hpL []) ∨
 (e = .ret ∧ ¬ (∀ j, fN ≤ j → j < fN + (len - fN) → cfin re im j = true) ∧ fr = Sx.frL [(4, .int true .i64 0), (5, .int true .i64 5)] ∧ H = Sx.hpL [])
theorem ch_body (len fN : Nat) (re im : Nat → Nat) (hlen : len ≤ 64) (k : Nat) (fr : Sx.Fr) (H : Sx.T Sx.ABk) (hI : chI len fN re im k fr H) :
  Sx.GoesB Try.prog (Sx.nav [1,1,1,1,0,1,0,0] (Sx.bodyOf Try.f12)) Try.f12.ntmps 1 1 1 fr H fun e fr' H' => match e with
   | .normal => ∃ k', k' < k ∧ chI len fN re im k' fr' H'
   | e => chP len fN re im e fr' H' := by
 obtain ⟨n, rfl, hn, hf, rfl, rfl⟩ := hI
 have hx : decide (((fN + n : Nat) : Int) < (len : Int)) = true → fN + n < len := fun t => by have := of_decide_eq_true t; omega
 have hm := Sx.bst_le (cgt re im) fN n
 have hB := chL 1 (by omega) len (fN + n) (Sx.bst (cgt re im) fN n) (Sx.cd (∀ j, fN ≤ j → j < fN + n → czer re im j = true)) re im (fun t _ => by have := hx t; omega) (fun t _ => by have := hx t; omega) (fun t _ => by have := hx t; omega)
 simp only [Nat.zero_add, Int.toNat_natCast] at hB
 refine hB.post fun e fr' H' h => ?_
 refine Sx.cond_elim h (fun t h => ?_) (fun t h => ?_)
 ·have hlt := hx t
  refine Sx.cond_elim h (fun t1 h => ?_) (fun t1 h => ?_)
  ·have hf' : ∀ j, fN ≤ j → j < fN + (n + 1) → cfin re im j = true := fun j h1 h2 => by
    by_cases e : j < fN + n
    ·exact hf j h1 e
    ·rw [show j = fN + n by omega]; exact t1
   refine Sx.cond_elim h (fun t2 h => ?_) (fun t2 h => ?_)
   ·
    refine Sx.cond_elim h (fun t3 h => ?_) (fun t3 h => ?_)
    ·obtain ⟨rfl, rfl, rfl⟩ := h
     exact ⟨[(0, Sx.slcV 0 len), (6, .int true .i64 (Sx.bst (cgt re im) fN (n + 1) : Nat)), (7, .sbool (Sx.cd (∀ j, fN ≤ j → j < fN + (n + 1) → czer re im j = true))), (8, .int true .i64 ((fN + (n + 1) : Nat) : Int))], [(0, .cells false 1 len (.fn fun j => [.cpx true (re j) (im j)]))], ⟨⟨_, rfl, Sx.AV.ge.refl _⟩, ⟨_, rfl, Sx.AV.ge.int' _ _ _ (by rw [Sx.bst, show cgt re im (fN + n) (Sx.bst (cgt re im) fN n) = true from t3]; rfl)⟩, ⟨_, rfl, Sx.AV.ge.sbool' (by rw [Sx.cd_step, t2]; rfl)⟩, ⟨_, rfl, Sx.AV.ge.int _ _ _ _⟩, trivial⟩, ⟨⟨_, rfl, Sx.SameC.refl _⟩, trivial⟩, len - (fN + (n + 1)), by omega, n + 1, rfl, by omega, hf', rfl, rfl⟩
    ·obtain ⟨rfl, rfl, rfl⟩ := h
     exact ⟨[(0, Sx.slcV 0 len), (6, .int true .i64 (Sx.bst (cgt re im) fN (n + 1) : Nat)), (7, .sbool (Sx.cd (∀ j, fN ≤ j → j < fN + (n + 1) → czer re im j = true))), (8, .int true .i64 ((fN + (n + 1) : Nat) : Int))], [(0, .cells false 1 len (.fn fun j => [.cpx true (re j) (im j)]))], ⟨⟨_, rfl, Sx.AV.ge.refl _⟩, ⟨_, rfl, Sx.AV.ge.int' _ _ _ (by rw [Sx.bst, show cgt re im (fN + n) (Sx.bst (cgt re im) fN n) = false from t3]; rfl)⟩, ⟨_, rfl, Sx.AV.ge.sbool' (by rw [Sx.cd_step, t2]; rfl)⟩, ⟨_, rfl, Sx.AV.ge.int _ _ _ _⟩, trivial⟩, ⟨⟨_, rfl, Sx.SameC.refl _⟩, trivial⟩, len - (fN + (n + 1)), by omega, n + 1, rfl, by omega, hf', rfl, rfl⟩

   ·
    refine Sx.cond_elim h (fun t3 h => ?_) (fun t3 h => ?_)
    ·obtain ⟨rfl, rfl, rfl⟩ := h
     exact ⟨[(0, Sx.slcV 0 len), (6, .int true .i64 (Sx.bst (cgt re im) fN (n + 1) : Nat)), (7, .sbool (Sx.cd (∀ j, fN ≤ j → j < fN + (n + 1) → czer re im j = true))), (8, .int true .i64 ((fN + (n + 1) : Nat) : Int))], [(0, .cells false 1 len (.fn fun j => [.cpx true (re j) (im j)]))], ⟨⟨_, rfl, Sx.AV.ge.refl _⟩, ⟨_, rfl, Sx.AV.ge.int' _ _ _ (by rw [Sx.bst, show cgt re im (fN + n) (Sx.bst (cgt re im) fN n) = true from t3]; rfl)⟩, ⟨_, rfl, Sx.AV.ge.bool' (by rw [Sx.cd_step, t2]; rfl)⟩, ⟨_, rfl, Sx.AV.ge.int _ _ _ _⟩, trivial⟩, ⟨⟨_, rfl, Sx.SameC.refl _⟩, trivial⟩, len - (fN + (n + 1)), by omega, n + 1, rfl, by omega, hf', rfl, rfl⟩
    ·obtain ⟨rfl, rfl, rfl⟩ := h
     exact ⟨[(0, Sx.slcV 0 len), (6, .int true .i64 (Sx.bst (cgt re im) fN (n + 1) : Nat)), (7, .sbool (Sx.cd (∀ j, fN ≤ j → j < fN + (n + 1) → czer re im j = true))), (8, .int true .i64 ((fN + (n + 1) : Nat) : Int))], [(0, .cells false 1 len (.fn fun j => [.cpx true (re j) (im j)]))], ⟨⟨_, rfl, Sx.AV.ge.refl _⟩, ⟨_, rfl, Sx.AV.ge.int' _ _ _ (by rw [Sx.bst, show cgt re im (fN + n) (Sx.bst (cgt re im) fN n) = false from t3]; rfl)⟩, ⟨_, rfl, Sx.AV.ge.bool' (by rw [Sx.cd_step, t2]; rfl)⟩, ⟨_, rfl, Sx.AV.ge.int _ _ _ _⟩, trivial⟩, ⟨⟨_, rfl, Sx.SameC.refl _⟩, trivial⟩, len - (fN + (n + 1)), by omega, n + 1, rfl, by omega, hf', rfl, rfl⟩

  ·obtain ⟨rfl, rfl, rfl⟩ := h
   exact ⟨[(4, .int true .i64 0), (5, .int true .i64 5)], [], ⟨⟨_, rfl, Sx.AV.ge.int _ _ _ _⟩, ⟨_, rfl, Sx.AV.ge.int _ _ _ _⟩, trivial⟩, trivial, .inr ⟨rfl, (fun hh => by have := hh (fN + n) (by omega) (by omega); rw [show cfin re im (fN + n) = false from t1] at this; cases this), rfl, rfl⟩⟩
 ·have e : n = len - fN := by have := of_decide_eq_false t; omega
  subst e
  obtain ⟨rfl, rfl, rfl⟩ := h
  exact ⟨[(6, .int true .i64 (Sx.bst (cgt re im) fN (len - fN) : Nat)), (7, .sbool (Sx.cd (∀ j, fN ≤ j → j < fN + (len - fN) → czer re im j = true)))], [], ⟨⟨_, rfl, Sx.AV.ge.refl _⟩, ⟨_, rfl, Sx.AV.ge.refl _⟩, trivial⟩, trivial, .inl ⟨rfl, hf, rfl, rfl⟩⟩
theorem ch_is : (Sx.bodyOf Try.f12) = .seq (Sx.nav [0] (Sx.bodyOf Try.f12)) (.seq (Sx.nav [1,0] (Sx.bodyOf Try.f12)) (.seq (Sx.nav [1,1,0] (Sx.bodyOf Try.f12)) (.seq (Sx.nav [1,1,1,0] (Sx.bodyOf Try.f12)) (.seq (.seq (Sx.nav [1,1,1,1,0,0] (Sx.bodyOf Try.f12)) (.block 1 (.loop (Sx.nav [1,1,1,1,0,1,0,0] (Sx.bodyOf Try.f12))))) (Sx.nav [1,1,1,1,1] (Sx.bodyOf Try.f12)))))) := by kernel_rfl
theorem ch_goes (len : Nat) (f : Int) (re im : Nat → Nat) :
  Sx.GoesB Try.prog (Sx.bodyOf Try.f12) Try.f12.ntmps 1 1 1 (Sx.frameOf [Sx.slcV 0 len, .int true .i64 f] 0 .e) (Sx.hpL [(0, .cells false 1 len (.fn fun j => [.cpx true (re j) (im j)]))]) (chQ len f re im 4 5) := by
 rw [ch_is]
 refine Sx.GoesB.seq (K1 := 1) (by omega) ((chA 1 (by omega) len f re im).mono fun e fr' H' ⟨e1, e2, e3⟩ => ?_)
 subst e1 e2 e3
 refine Sx.GoesB.seq (K1 := 1) (by omega) ((chB 1 (by omega) len f re im).mono fun e fr' H' h => ?_)
 refine Sx.cond_elim h (fun t1 h => ?_) (fun t1 h => ?_)
 ·obtain ⟨rfl, rfl, rfl⟩ := h
  exact ⟨.inl rfl, _, _, rfl, rfl, ch_q (by unfold chR; rw [t1]; rfl)⟩
 refine Sx.cond_elim h (fun t2 h => ?_) (fun t2 h => ?_)
 ·obtain ⟨rfl, rfl, rfl⟩ := h
  exact ⟨.inl rfl, _, _, rfl, rfl, ch_q (by unfold chR; rw [t1, t2]; rfl)⟩
 refine Sx.cond_elim h (fun t3 h => ?_) (fun t3 h => ?_)
 ·obtain ⟨rfl, rfl, rfl⟩ := h
  exact ⟨.inl rfl, _, _, rfl, rfl, ch_q (by unfold chR; rw [t1, t2, t3]; rfl)⟩
 obtain ⟨rfl, rfl, rfl⟩ := h
 have h1 := of_decide_eq_false t1
 have h2 := of_decide_eq_false t2
 have h3 := of_decide_eq_false t3
 have ef : f = ((f.toNat : Nat) : Int) := by omega
 refine Sx.GoesB.seq (K1 := 1) (by omega) ((chC 1 (by omega) len f re im).mono fun e fr' H' ⟨e1, e2, e3⟩ => ?_)
 subst e1 e2 e3
 refine Sx.GoesB.seq (K1 := 1) (by omega) ((chD 1 (by omega) len f re im).mono fun e fr' H' ⟨e1, e2, e3⟩ => ?_)
 subst e1 e2 e3
 refine Sx.GoesB.seq (K1 := 1) (by omega) (Sx.GoesB.seq (K1 := 1) (by omega) ((chE 1 (by omega) len f re im).mono fun e fr' H' ⟨e1, e2, e3⟩ => ?_))
 subst e1 e2 e3
 refine Sx.GoesB.weakL (fl := [(0, Sx.slcV 0 len), (6, .int true .i64 (Sx.bst (cgt re im) f.toNat (0) : Nat)), (7, .sbool (Sx.cd (∀ j, f.toNat ≤ j → j < f.toNat + (0) → czer re im j = true))), (8, .int true .i64 ((f.toNat + (0) : Nat) : Int))]) (bl := [(0, .cells false 1 len (.fn fun j => [.cpx true (re j) (im j)]))]) ⟨⟨_, rfl, Sx.AV.ge.refl _⟩, ⟨_, rfl, Sx.AV.ge.int' _ _ _ ef⟩, ⟨_, rfl, Sx.AV.ge.bool' (Sx.cd_true fun j h1 h2 => by omega).symm⟩, ⟨_, rfl, Sx.AV.ge.int' _ _ _ ef⟩, trivial⟩ ⟨⟨_, rfl, Sx.SameC.refl _⟩, trivial⟩ ?_
 refine Sx.GoesB.block ((Sx.GoesB.loop (chI len f.toNat re im) (Post := chP len f.toNat re im) (ch_body len f.toNat re im (by omega)) _ _ _ ⟨0, rfl, by omega, fun j h1 h2 => by omega, rfl, rfl⟩).mono fun e fr' H' hp => ?_)
 rcases hp with ⟨rfl, hF, rfl, rfl⟩ | ⟨rfl, hF, rfl, rfl⟩
 ·simp only [if_true]
  refine (chZ 1 (by omega) _ _).mono fun e fr' H' h => ?_
  refine Sx.cond_elim h (fun t4 h => ?_) (fun t4 h => ?_)
  ·obtain ⟨rfl, rfl, rfl⟩ := h
   exact ⟨.inl rfl, _, _, rfl, rfl, ch_q (by unfold chR; rw [t1, t2, t3, Sx.cd_true hF, t4]; rfl)⟩
  ·obtain ⟨rfl, rfl, rfl⟩ := h
   exact ⟨.inl rfl, _, _, rfl, rfl, ch_q (by unfold chR; rw [t1, t2, t3, Sx.cd_true hF, t4]; rfl)⟩
 ·exact ⟨.inl rfl, _, _, rfl, rfl, ch_q (by unfold chR; rw [t1, t2, t3, Sx.cd_false hF]; rfl)⟩

theorem rcA_r0 (len : Nat) (f : Int) (re im : Nat → Nat) : Sx.PieceN 1 (Sx.Ex.normal) [(0, Sx.AV.slc true false (Sx.AA.mk false (0 : Nat) (0 : Nat) (0 : Nat)) len), (1, Sx.AV.int true IntKind.i64 f)] [(0, Sx.ABk.cells false (1 : Nat) len (Sx.Cont.fn fun j => [Sx.AV.cpx true (re j) (im j)]))] (piececall2 Try.f13 (Sx.nav [0] (Sx.bodyOf Try.f13)) (Sx.frameOf [Sx.slcV 0 len, .int true .i64 f] 0 .e) (Sx.hpL [(0, .cells false 1 len (.fn fun j => [.cpx true (re j) (im j)]))]) 1 []) := Sx.eqn (q := True) (by kernel_rfl) trivial
theorem rcA (B : Nat) (hB : B ≤ 1) (len : Nat) (f : Int) (re im : Nat → Nat) : Sx.GoesB Try.prog (Sx.nav [0] (Sx.bodyOf Try.f13)) Try.f13.ntmps B 1 1 (Sx.frameOf [Sx.slcV 0 len, .int true .i64 f] 0 .e) (Sx.hpL [(0, .cells false 1 len (.fn fun j => [.cpx true (re j) (im j)]))]) fun e fr' H' => (e = Sx.Ex.normal ∧ fr' = Sx.frL [(0, Sx.AV.slc true false (Sx.AA.mk false (0 : Nat) (0 : Nat) (0 : Nat)) len), (1, Sx.AV.int true IntKind.i64 f)] ∧ H' = Sx.hpL [(0, Sx.ABk.cells false (1 : Nat) len (Sx.Cont.fn fun j => [Sx.AV.cpx true (re j) (im j)]))]) := by
 exact (Sx.GoesB.runN call2_ok (call2_reg _) (Sx.LoopsIn.none _ _ _) (rcA_r0 len f re im) hB).mono fun e fr' H' h => h
theorem rcB_r0 (len : Nat) (f : Int) (re im : Nat → Nat) (c0 : decide ((64 : Int) < (↑len : Int)) = true) : Sx.PieceN 1 (Sx.Ex.ret) [(0, Sx.AV.slc true false (Sx.AA.mk false (0 : Nat) (0 : Nat) (0 : Nat)) len), (1, Sx.AV.int true IntKind.i64 f), (4, Sx.AV.int false IntKind.i64 (0 : Int)), (5, Sx.AV.int false IntKind.i64 (3 : Int))] [(0, Sx.ABk.cells false (1 : Nat) len (Sx.Cont.fn fun j => [Sx.AV.cpx true (re j) (im j)]))] (piececall2 Try.f13 (Sx.nav [1,0] (Sx.bodyOf Try.f13)) (Sx.frL [(0, Sx.slcV 0 len), (1, .int true .i64 f)]) (Sx.hpL [(0, .cells false 1 len (.fn fun j => [.cpx true (re j) (im j)]))]) 1 [true]) := Sx.eqn (q := (True ∧ (decide ((64 : Int) < (↑len : Int)) = true))) (by kernel_rfl) ⟨trivial, c0⟩
theorem rcB_r1 (len : Nat) (f : Int) (re im : Nat → Nat) (c0 : decide ((64 : Int) < (↑len : Int)) = false) : Sx.PieceN 1 (Sx.Ex.normal) [(0, Sx.AV.slc true false (Sx.AA.mk false (0 : Nat) (0 : Nat) (0 : Nat)) len), (1, Sx.AV.int true IntKind.i64 f)] [(0, Sx.ABk.cells false (1 : Nat) len (Sx.Cont.fn fun j => [Sx.AV.cpx true (re j) (im j)]))] (piececall2 Try.f13 (Sx.nav [1,0] (Sx.bodyOf Try.f13)) (Sx.frL [(0, Sx.slcV 0 len), (1, .int true .i64 f)]) (Sx.hpL [(0, .cells false 1 len (.fn fun j => [.cpx true (re j) (im j)]))]) 1 [false]) := Sx.eqn (q := (True ∧ (decide ((64 : Int) < (↑len : Int)) = false))) (by kernel_rfl) ⟨trivial, c0⟩
theorem rcB (B : Nat) (hB : B ≤ 1) (len : Nat) (f : Int) (re im : Nat → Nat) : Sx.GoesB Try.prog (Sx.nav [1,0] (Sx.bodyOf Try.f13)) Try.f13.ntmps B 1 1 (Sx.frL [(0, Sx.slcV 0 len), (1, .int true .i64 f)]) (Sx.hpL [(0, .cells false 1 len (.fn fun j => [.cpx true (re j) (im j)]))]) fun e fr' H' => (cond (decide ((64 : Int) < (↑len : Int))) (e = Sx.Ex.ret ∧ fr' = Sx.frL [(0, Sx.AV.slc true false (Sx.AA.mk false (0 : Nat) (0 : Nat) (0 : Nat)) len), (1, Sx.AV.int true IntKind.i64 f), (4, Sx.AV.int false IntKind.i64 (0 : Int)), (5, Sx.AV.int false IntKind.i64 (3 : Int))] ∧ H' = Sx.hpL [(0, Sx.ABk.cells false (1 : Nat) len (Sx.Cont.fn fun j => [Sx.AV.cpx true (re j) (im j)]))]) (e = Sx.Ex.normal ∧ fr' = Sx.frL [(0, Sx.AV.slc true false (Sx.AA.mk false (0 : Nat) (0 : Nat) (0 : Nat)) len), (1, Sx.AV.int true IntKind.i64 f)] ∧ H' = Sx.hpL [(0, Sx.ABk.cells false (1 : Nat) len (Sx.Cont.fn fun j => [Sx.AV.cpx true (re j) (im j)]))])) := by
 cases t0 : decide ((64 : Int) < (↑len : Int)) with
 | true =>
  exact (Sx.GoesB.runN call2_ok (call2_reg _) (Sx.LoopsIn.none _ _ _) (rcB_r0 len f re im t0) hB).mono fun e fr' H' h => by simp only [t0, cond_true, cond_false]; exact h
 | false =>
  exact (Sx.GoesB.runN call2_ok (call2_reg _) (Sx.LoopsIn.none _ _ _) (rcB_r1 len f re im t0) hB).mono fun e fr' H' h => by simp only [t0, cond_true, cond_false]; exact h
theorem rcC_r0 (len : Nat) (f : Int) (re im : Nat → Nat) (c0 : decide (f < (0 : Int)) = true) : Sx.PieceN 1 (Sx.Ex.ret) [(0, Sx.AV.slc true false (Sx.AA.mk false (0 : Nat) (0 : Nat) (0 : Nat)) len), (1, Sx.AV.int true IntKind.i64 f), (4, Sx.AV.int false IntKind.i64 (0 : Int)), (5, Sx.AV.int false IntKind.i64 (2 : Int))] [(0, Sx.ABk.cells false (1 : Nat) len (Sx.Cont.fn fun j => [Sx.AV.cpx true (re j) (im j)]))] (piececall2 Try.f13 (Sx.nav [1,1,0] (Sx.bodyOf Try.f13)) (Sx.frL [(0, Sx.slcV 0 len), (1, .int true .i64 f)]) (Sx.hpL [(0, .cells false 1 len (.fn fun j => [.cpx true (re j) (im j)]))]) 1 [true]) := Sx.eqn (q := (True ∧ (decide (f < (0 : Int)) = true))) (by kernel_rfl) ⟨trivial, c0⟩
theorem rcC_r1 (len : Nat) (f : Int) (re im : Nat → Nat) (c0 : decide (f < (0 : Int)) = false) (c1 : decide ((↑len : Int) ≤ f) = true) : Sx.PieceN 1 (Sx.Ex.ret) [(0, Sx.AV.slc true false (Sx.AA.mk false (0 : Nat) (0 : Nat) (0 : Nat)) len), (1, Sx.AV.int true IntKind.i64 f), (4, Sx.AV.int false IntKind.i64 (0 : Int)), (5, Sx.AV.int false IntKind.i64 (2 : Int))] [(0, Sx.ABk.cells false (1 : Nat) len (Sx.Cont.fn fun j => [Sx.AV.cpx true (re j) (im j)]))] (piececall2 Try.f13 (Sx.nav [1,1,0] (Sx.bodyOf Try.f13)) (Sx.frL [(0, Sx.slcV 0 len), (1, .int true .i64 f)]) (Sx.hpL [(0, .cells false 1 len (.fn fun j => [.cpx true (re j) (im j)]))]) 1 [false, true]) := Sx.eqn (q := ((True ∧ (decide (f < (0 : Int)) = false)) ∧ (decide ((↑len : Int) ≤ f) = true))) (by kernel_rfl) ⟨⟨trivial, c0⟩, c1⟩
theorem rcC_r2 (len : Nat) (f : Int) (re im : Nat → Nat) (c0 : decide (f < (0 : Int)) = false) (c1 : decide ((↑len : Int) ≤ f) = false) : Sx.PieceN 1 (Sx.Ex.normal) [(0, Sx.AV.slc true false (Sx.AA.mk false (0 : Nat) (0 : Nat) (0 : Nat)) len), (1, Sx.AV.int true IntKind.i64 f)] [(0, Sx.ABk.cells false (1 : Nat) len (Sx.Cont.fn fun j => [Sx.AV.cpx true (re j) (im j)]))] (piececall2 Try.f13 (Sx.nav [1,1,0] (Sx.bodyOf Try.f13)) (Sx.frL [(0, Sx.slcV 0 len), (1, .int true .i64 f)]) (Sx.hpL [(0, .cells false 1 len (.fn fun j => [.cpx true (re j) (im j)]))]) 1 [false, false]) := Sx.eqn (q := ((True ∧ (decide (f < (0 : Int)) = false)) ∧ (decide ((↑len : Int) ≤ f) = false))) (by kernel_rfl) ⟨⟨trivial, c0⟩, c1⟩
theorem rcC (B : Nat) (hB : B ≤ 1) (len : Nat) (f : Int) (re im : Nat → Nat) : Sx.GoesB Try.prog (Sx.nav [1,1,0] (Sx.bodyOf Try.f13)) Try.f13.ntmps B 1 1 (Sx.frL [(0, Sx.slcV 0 len), (1, .int true .i64 f)]) (Sx.hpL [(0, .cells false 1 len (.fn fun j => [.cpx true (re j) (im j)]))]) fun e fr' H' => (cond (decide (f < (0 : Int))) (e = Sx.Ex.ret ∧ fr' = Sx.frL [(0, Sx.AV.slc true false (Sx.AA.mk false (0 : Nat) (0 : Nat) (0 : Nat)) len), (1, Sx.AV.int true IntKind.i64 f), (4, Sx.AV.int false IntKind.i64 (0 : Int)), (5, Sx.AV.int false IntKind.i64 (2 : Int))] ∧ H' = Sx.hpL [(0, Sx.ABk.cells false (1 : Nat) len (Sx.Cont.fn fun j => [Sx.AV.cpx true (re j) (im j)]))]) (cond (decide ((↑len : Int) ≤ f)) (e = Sx.Ex.ret ∧ fr' = Sx.frL [(0, Sx.AV.slc true false (Sx.AA.mk false (0 : Nat) (0 : Nat) (0 : Nat)) len), (1, Sx.AV.int true IntKind.i64 f), (4, Sx.AV.int false IntKind.i64 (0 : Int)), (5, Sx.AV.int false IntKind.i64 (2 : Int))] ∧ H' = Sx.hpL [(0, Sx.ABk.cells false (1 : Nat) len (Sx.Cont.fn fun j => [Sx.AV.cpx true (re j) (im j)]))]) (e = Sx.Ex.normal ∧ fr' = Sx.frL [(0, Sx.AV.slc true false (Sx.AA.mk false (0 : Nat) (0 : Nat) (0 : Nat)) len), (1, Sx.AV.int true IntKind.i64 f)] ∧ H' = Sx.hpL [(0, Sx.ABk.cells false (1 : Nat) len (Sx.Cont.fn fun j => [Sx.AV.cpx true (re j) (im j)]))]))) := by
 cases t0 : decide (f < (0 : Int)) with
 | true =>
  exact (Sx.GoesB.runN call2_ok (call2_reg _) (Sx.LoopsIn.none _ _ _) (rcC_r0 len f re im t0) hB).mono fun e fr' H' h => by simp only [t0, cond_true, cond_false]; exact h
 | false =>
  cases t1 : decide ((↑len : Int) ≤ f) with
  | true =>
   exact (Sx.GoesB.runN call2_ok (call2_reg _) (Sx.LoopsIn.none _ _ _) (rcC_r1 len f re im t0 t1) hB).mono fun e fr' H' h => by simp only [t0, t1, cond_true, cond_false]; exact h
  | false =>
   exact (Sx.GoesB.runN call2_ok (call2_reg _) (Sx.LoopsIn.none _ _ _) (rcC_r2 len f re im t0 t1) hB).mono fun e fr' H' h => by simp only [t0, t1, cond_true, cond_false]; exact h
theorem rcD_r0 (len : Nat) (f : Int) (re im : Nat → Nat) : Sx.PieceN 1 (Sx.Ex.normal) [(0, Sx.AV.slc true false (Sx.AA.mk false (0 : Nat) (0 : Nat) (0 : Nat)) len), (1, Sx.AV.int true IntKind.i64 f), (6, Sx.AV.bool true)] [(0, Sx.ABk.cells false (1 : Nat) len (Sx.Cont.fn fun j => [Sx.AV.cpx true (re j) (im j)]))] (piececall2 Try.f13 (Sx.nav [1,1,1,0] (Sx.bodyOf Try.f13)) (Sx.frL [(0, Sx.slcV 0 len), (1, .int true .i64 f)]) (Sx.hpL [(0, .cells false 1 len (.fn fun j => [.cpx true (re j) (im j)]))]) 1 []) := Sx.eqn (q := True) (by kernel_rfl) trivial
theorem rcD (B : Nat) (hB : B ≤ 1) (len : Nat) (f : Int) (re im : Nat → Nat) : Sx.GoesB Try.prog (Sx.nav [1,1,1,0] (Sx.bodyOf Try.f13)) Try.f13.ntmps B 1 1 (Sx.frL [(0, Sx.slcV 0 len), (1, .int true .i64 f)]) (Sx.hpL [(0, .cells false 1 len (.fn fun j => [.cpx true (re j) (im j)]))]) fun e fr' H' => (e = Sx.Ex.normal ∧ fr' = Sx.frL [(0, Sx.AV.slc true false (Sx.AA.mk false (0 : Nat) (0 : Nat) (0 : Nat)) len), (1, Sx.AV.int true IntKind.i64 f), (6, Sx.AV.bool true)] ∧ H' = Sx.hpL [(0, Sx.ABk.cells false (1 : Nat) len (Sx.Cont.fn fun j => [Sx.AV.cpx true (re j) (im j)]))]) := by
 exact (Sx.GoesB.runN call2_ok (call2_reg _) (Sx.LoopsIn.none _ _ _) (rcD_r0 len f re im) hB).mono fun e fr' H' h => h
theorem rcE_r0 (len : Nat) (f : Int) (re im : Nat → Nat) : Sx.PieceN 1 (Sx.Ex.normal) [(0, Sx.AV.slc true false (Sx.AA.mk false (0 : Nat) (0 : Nat) (0 : Nat)) len), (1, Sx.AV.int true IntKind.i64 f), (6, Sx.AV.bool true), (7, Sx.AV.int true IntKind.i64 f)] [(0, Sx.ABk.cells false (1 : Nat) len (Sx.Cont.fn fun j => [Sx.AV.cpx true (re j) (im j)]))] (piececall2 Try.f13 (Sx.nav [1,1,1,1,0,0] (Sx.bodyOf Try.f13)) (Sx.frL [(0, Sx.slcV 0 len), (1, .int true .i64 f), (6, .bool true)]) (Sx.hpL [(0, .cells false 1 len (.fn fun j => [.cpx true (re j) (im j)]))]) 1 []) := Sx.eqn (q := True) (by kernel_rfl) trivial
theorem rcE (B : Nat) (hB : B ≤ 1) (len : Nat) (f : Int) (re im : Nat → Nat) : Sx.GoesB Try.prog (Sx.nav [1,1,1,1,0,0] (Sx.bodyOf Try.f13)) Try.f13.ntmps B 1 1 (Sx.frL [(0, Sx.slcV 0 len), (1, .int true .i64 f), (6, .bool true)]) (Sx.hpL [(0, .cells false 1 len (.fn fun j => [.cpx true (re j) (im j)]))]) fun e fr' H' => (e = Sx.Ex.normal ∧ fr' = Sx.frL [(0, Sx.AV.slc true false (Sx.AA.mk false (0 : Nat) (0 : Nat) (0 : Nat)) len), (1, Sx.AV.int true IntKind.i64 f), (6, Sx.AV.bool true), (7, Sx.AV.int true IntKind.i64 f)] ∧ H' = Sx.hpL [(0, Sx.ABk.cells false (1 : Nat) len (Sx.Cont.fn fun j => [Sx.AV.cpx true (re j) (im j)]))]) := by
 exact (Sx.GoesB.runN call2_ok (call2_reg _) (Sx.LoopsIn.none _ _ _) (rcE_r0 len f re im) hB).mono fun e fr' H' h => h
theorem rcL_r0 (len i : Nat) (f : Int) (z : Bool) (re im : Nat → Nat) (c0 : decide ((↑i : Int) < (↑len : Int)) = true) (c1 : (0 : Int) ≤ (↑i : Int)) (c2 : (↑i : Int) < (↑len : Int)) (c3 : (0 : Nat) + i < len) (c4 : (!rfin_0 (re ((0 : Nat) + i)) (im ((0 : Nat) + i))) = false) (c5 : z = true) (c6 : (-9223372036854775808 : Int) ≤ (↑i : Int) + (1 : Int)) (c7 : (↑i : Int) + (1 : Int) ≤ (9223372036854775807 : Int)) : Sx.PieceN 1 (Sx.Ex.normal) [(0, Sx.AV.slc true false (Sx.AA.mk false (0 : Nat) (0 : Nat) (0 : Nat)) len), (1, Sx.AV.int true IntKind.i64 f), (6, Sx.AV.sbool (rzer_0 (re ((0 : Nat) + i)) (im ((0 : Nat) + i)))), (7, Sx.AV.int true IntKind.i64 ((↑i : Int) + (1 : Int)))] [(0, Sx.ABk.cells false (1 : Nat) len (Sx.Cont.fn fun j => [Sx.AV.cpx true (re j) (im j)]))] (piececall2 Try.f13 (Sx.nav [1,1,1,1,0,1,0,0] (Sx.bodyOf Try.f13)) (Sx.frL [(0, Sx.slcV 0 len), (1, .int true .i64 f), (6, .sbool z), (7, .int true .i64 i)]) (Sx.hpL [(0, .cells false 1 len (.fn fun j => [.cpx true (re j) (im j)]))]) 1 [true, false, true]) := Sx.eqn (q := ((((((((True ∧ (decide ((↑i : Int) < (↑len : Int)) = true)) ∧ (((0 : Int) ≤ (↑i : Int)) ∧ ((↑i : Int) < (↑len : Int)))) ∧ ((0 : Nat) + i < len)) ∧ ((!rfin_0 (re ((0 : Nat) + i)) (im ((0 : Nat) + i))) = false)) ∧ (z = true)) ∧ (((0 : Int) ≤ (↑i : Int)) ∧ ((↑i : Int) < (↑len : Int)))) ∧ ((0 : Nat) + i < len)) ∧ (((-9223372036854775808 : Int) ≤ (↑i : Int) + (1 : Int)) ∧ ((↑i : Int) + (1 : Int) ≤ (9223372036854775807 : Int))))) (by kernel_rfl) ⟨⟨⟨⟨⟨⟨⟨⟨trivial, c0⟩, ⟨c1, c2⟩⟩, c3⟩, c4⟩, c5⟩, ⟨c1, c2⟩⟩, c3⟩, ⟨c6, c7⟩⟩
theorem rcL_r1 (len i : Nat) (f : Int) (z : Bool) (re im : Nat → Nat) (c0 : decide ((↑i : Int) < (↑len : Int)) = true) (c1 : (0 : Int) ≤ (↑i : Int)) (c2 : (↑i : Int) < (↑len : Int)) (c3 : (0 : Nat) + i < len) (c4 : (!rfin_0 (re ((0 : Nat) + i)) (im ((0 : Nat) + i))) = false) (c5 : z = false) (c6 : (-9223372036854775808 : Int) ≤ (↑i : Int) + (1 : Int)) (c7 : (↑i : Int) + (1 : Int) ≤ (9223372036854775807 : Int)) : Sx.PieceN 1 (Sx.Ex.normal) [(0, Sx.AV.slc true false (Sx.AA.mk false (0 : Nat) (0 : Nat) (0 : Nat)) len), (1, Sx.AV.int true IntKind.i64 f), (6, Sx.AV.bool false), (7, Sx.AV.int true IntKind.i64 ((↑i : Int) + (1 : Int)))] [(0, Sx.ABk.cells false (1 : Nat) len (Sx.Cont.fn fun j => [Sx.AV.cpx true (re j) (im j)]))] (piececall2 Try.f13 (Sx.nav [1,1,1,1,0,1,0,0] (Sx.bodyOf Try.f13)) (Sx.frL [(0, Sx.slcV 0 len), (1, .int true .i64 f), (6, .sbool z), (7, .int true .i64 i)]) (Sx.hpL [(0, .cells false 1 len (.fn fun j => [.cpx true (re j) (im j)]))]) 1 [true, false, false]) := Sx.eqn (q := ((((((True ∧ (decide ((↑i : Int) < (↑len : Int)) = true)) ∧ (((0 : Int) ≤ (↑i : Int)) ∧ ((↑i : Int) < (↑len : Int)))) ∧ ((0 : Nat) + i < len)) ∧ ((!rfin_0 (re ((0 : Nat) + i)) (im ((0 : Nat) + i))) = false)) ∧ (z = false)) ∧ (((-9223372036854775808 : Int) ≤ (↑i : Int) + (1 : Int)) ∧ ((↑i : Int) + (1 : Int) ≤ (9223372036854775807 : Int))))) (by kernel_rfl) ⟨⟨⟨⟨⟨⟨trivial, c0⟩, ⟨c1, c2⟩⟩, c3⟩, c4⟩, c5⟩, ⟨c6, c7⟩⟩
theorem rcL_r2 (len i : Nat) (f : Int) (z : Bool) (re im : Nat → Nat) (c0 : decide ((↑i : Int) < (↑len : Int)) = true) (c1 : (0 : Int) ≤ (↑i : Int)) (c2 : (↑i : Int) < (↑len : Int)) (c3 : (0 : Nat) + i < len) (c4 : (!rfin_0 (re ((0 : Nat) + i)) (im ((0 : Nat) + i))) = true) : Sx.PieceN 1 (Sx.Ex.ret) [(0, Sx.AV.slc true false (Sx.AA.mk false (0 : Nat) (0 : Nat) (0 : Nat)) len), (1, Sx.AV.int true IntKind.i64 f), (4, Sx.AV.int false IntKind.i64 (0 : Int)), (5, Sx.AV.int false IntKind.i64 (5 : Int)), (6, Sx.AV.sbool z), (7, Sx.AV.int true IntKind.i64 (↑i : Int))] [(0, Sx.ABk.cells false (1 : Nat) len (Sx.Cont.fn fun j => [Sx.AV.cpx true (re j) (im j)]))] (piececall2 Try.f13 (Sx.nav [1,1,1,1,0,1,0,0] (Sx.bodyOf Try.f13)) (Sx.frL [(0, Sx.slcV 0 len), (1, .int true .i64 f), (6, .sbool z), (7, .int true .i64 i)]) (Sx.hpL [(0, .cells false 1 len (.fn fun j => [.cpx true (re j) (im j)]))]) 1 [true, true]) := Sx.eqn (q := ((((True ∧ (decide ((↑i : Int) < (↑len : Int)) = true)) ∧ (((0 : Int) ≤ (↑i : Int)) ∧ ((↑i : Int) < (↑len : Int)))) ∧ ((0 : Nat) + i < len)) ∧ ((!rfin_0 (re ((0 : Nat) + i)) (im ((0 : Nat) + i))) = true))) (by kernel_rfl) ⟨⟨⟨⟨trivial, c0⟩, ⟨c1, c2⟩⟩, c3⟩, c4⟩
theorem rcL_r3 (len i : Nat) (f : Int) (z : Bool) (re im : Nat → Nat) (c0 : decide ((↑i : Int) < (↑len : Int)) = false) : Sx.PieceN 1 (Sx.Ex.exit (0 : Nat)) [(0, Sx.AV.slc true false (Sx.AA.mk false (0 : Nat) (0 : Nat) (0 : Nat)) len), (1, Sx.AV.int true IntKind.i64 f), (6, Sx.AV.sbool z), (7, Sx.AV.int true IntKind.i64 (↑i : Int))] [(0, Sx.ABk.cells false (1 : Nat) len (Sx.Cont.fn fun j => [Sx.AV.cpx true (re j) (im j)]))] (piececall2 Try.f13 (Sx.nav [1,1,1,1,0,1,0,0] (Sx.bodyOf Try.f13)) (Sx.frL [(0, Sx.slcV 0 len), (1, .int true .i64 f), (6, .sbool z), (7, .int true .i64 i)]) (Sx.hpL [(0, .cells false 1 len (.fn fun j => [.cpx true (re j) (im j)]))]) 1 [false]) := Sx.eqn (q := (True ∧ (decide ((↑i : Int) < (↑len : Int)) = false))) (by kernel_rfl) ⟨trivial, c0⟩
theorem rcL (B : Nat) (hB : B ≤ 1) (len i : Nat) (f : Int) (z : Bool) (re im : Nat → Nat) (x0 : ((decide ((↑i : Int) < (↑len : Int))) = true → ((rfin_0 (re ((0 : Nat) + i)) (im ((0 : Nat) + i))) = true → ((↑i : Int) + (1 : Int) ≤ (9223372036854775807 : Int))))) : Sx.GoesB Try.prog (Sx.nav [1,1,1,1,0,1,0,0] (Sx.bodyOf Try.f13)) Try.f13.ntmps B 1 1 (Sx.frL [(0, Sx.slcV 0 len), (1, .int true .i64 f), (6, .sbool z), (7, .int true .i64 i)]) (Sx.hpL [(0, .cells false 1 len (.fn fun j => [.cpx true (re j) (im j)]))]) fun e fr' H' => (cond (decide ((↑i : Int) < (↑len : Int))) (cond (rfin_0 (re ((0 : Nat) + i)) (im ((0 : Nat) + i))) (cond (z) (e = Sx.Ex.normal ∧ fr' = Sx.frL [(0, Sx.AV.slc true false (Sx.AA.mk false (0 : Nat) (0 : Nat) (0 : Nat)) len), (1, Sx.AV.int true IntKind.i64 f), (6, Sx.AV.sbool (rzer_0 (re ((0 : Nat) + i)) (im ((0 : Nat) + i)))), (7, Sx.AV.int true IntKind.i64 ((↑i : Int) + (1 : Int)))] ∧ H' = Sx.hpL [(0, Sx.ABk.cells false (1 : Nat) len (Sx.Cont.fn fun j => [Sx.AV.cpx true (re j) (im j)]))]) (e = Sx.Ex.normal ∧ fr' = Sx.frL [(0, Sx.AV.slc true false (Sx.AA.mk false (0 : Nat) (0 : Nat) (0 : Nat)) len), (1, Sx.AV.int true IntKind.i64 f), (6, Sx.AV.bool false), (7, Sx.AV.int true IntKind.i64 ((↑i : Int) + (1 : Int)))] ∧ H' = Sx.hpL [(0, Sx.ABk.cells false (1 : Nat) len (Sx.Cont.fn fun j => [Sx.AV.cpx true (re j) (im j)]))])) (e = Sx.Ex.ret ∧ fr' = Sx.frL [(0, Sx.AV.slc true false (Sx.AA.mk false (0 : Nat) (0 : Nat) (0 : Nat)) len), (1, Sx.AV.int true IntKind.i64 f), (4, Sx.AV.int false IntKind.i64 (0 : Int)), (5, Sx.AV.int false IntKind.i64 (5 : Int)), (6, Sx.AV.sbool z), (7, Sx.AV.int true IntKind.i64 (↑i : Int))] ∧ H' = Sx.hpL [(0, Sx.ABk.cells false (1 : Nat) len (Sx.Cont.fn fun j => [Sx.AV.cpx true (re j) (im j)]))])) (e = Sx.Ex.exit (0 : Nat) ∧ fr' = Sx.frL [(0, Sx.AV.slc true false (Sx.AA.mk false (0 : Nat) (0 : Nat) (0 : Nat)) len), (1, Sx.AV.int true IntKind.i64 f), (6, Sx.AV.sbool z), (7, Sx.AV.int true IntKind.i64 (↑i : Int))] ∧ H' = Sx.hpL [(0, Sx.ABk.cells false (1 : Nat) len (Sx.Cont.fn fun j => [Sx.AV.cpx true (re j) (im j)]))])) := by
 cases t0 : decide ((↑i : Int) < (↑len : Int)) with
 | true =>
  cases t1 : rfin_0 (re ((0 : Nat) + i)) (im ((0 : Nat) + i)) with
  | true =>
   rcases Bool.eq_false_or_eq_true (z) with t2 | t2
   ·
    exact (Sx.GoesB.runN call2_ok (call2_reg _) (Sx.LoopsIn.none _ _ _) (rcL_r0 len i f z re im t0 (by first | decide | ((try simp only [decide_eq_true_eq, decide_eq_false_iff_not] at t0 t1 t2); (try simp only [List.length_take, List.length_drop]); omega)) (by first | decide | ((try simp only [decide_eq_true_eq, decide_eq_false_iff_not] at t0 t1 t2); (try simp only [List.length_take, List.length_drop]); omega)) (by first | decide | ((try simp only [decide_eq_true_eq, decide_eq_false_iff_not] at t0 t1 t2); (try simp only [List.length_take, List.length_drop]); omega)) (by rw [t1]; rfl) t2 (by first | decide | ((try simp only [decide_eq_true_eq, decide_eq_false_iff_not] at t0 t1 t2); (try simp only [List.length_take, List.length_drop]); omega)) (x0 t0 t1)) hB).mono fun e fr' H' h => by simp only [t0, t1, t2, cond_true, cond_false]; exact h
   ·
    exact (Sx.GoesB.runN call2_ok (call2_reg _) (Sx.LoopsIn.none _ _ _) (rcL_r1 len i f z re im t0 (by first | decide | ((try simp only [decide_eq_true_eq, decide_eq_false_iff_not] at t0 t1 t2); (try simp only [List.length_take, List.length_drop]); omega)) (by first | decide | ((try simp only [decide_eq_true_eq, decide_eq_false_iff_not] at t0 t1 t2); (try simp only [List.length_take, List.length_drop]); omega)) (by first | decide | ((try simp only [decide_eq_true_eq, decide_eq_false_iff_not] at t0 t1 t2); (try simp only [List.length_take, List.length_drop]); omega)) (by rw [t1]; rfl) t2 (by first | decide | ((try simp only [decide_eq_true_eq, decide_eq_false_iff_not] at t0 t1 t2); (try simp only [List.length_take, List.length_drop]); omega)) (x0 t0 t1)) hB).mono fun e fr' H' h => by simp only [t0, t1, t2, cond_true, cond_false]; exact h
  | false =>
   exact (Sx.GoesB.runN call2_ok (call2_reg _) (Sx.LoopsIn.none _ _ _) (rcL_r2 len i f z re im t0 (by first | decide | ((try simp only [decide_eq_true_eq, decide_eq_false_iff_not] at t0 t1); (try simp only [List.length_take, List.length_drop]); omega)) (by first | decide | ((try simp only [decide_eq_true_eq, decide_eq_false_iff_not] at t0 t1); (try simp only [List.length_take, List.length_drop]); omega)) (by first | decide | ((try simp only [decide_eq_true_eq, decide_eq_false_iff_not] at t0 t1); (try simp only [List.length_take, List.length_drop]); omega)) (by rw [t1]; rfl)) hB).mono fun e fr' H' h => by simp only [t0, t1, cond_true, cond_false]; exact h
 | false =>
  exact (Sx.GoesB.runN call2_ok (call2_reg _) (Sx.LoopsIn.none _ _ _) (rcL_r3 len i f z re im t0) hB).mono fun e fr' H' h => by simp only [t0, cond_true, cond_false]; exact h
theorem rcZ_r0 (len : Nat) (f : Int) (z : Bool) (re im : Nat → Nat) (c0 : z = true) : Sx.PieceN 1 (Sx.Ex.ret) [(0, Sx.AV.slc true false (Sx.AA.mk false (0 : Nat) (0 : Nat) (0 : Nat)) len), (1, Sx.AV.int true IntKind.i64 f), (4, Sx.AV.int false IntKind.i64 (0 : Int)), (5, Sx.AV.int false IntKind.i64 (7 : Int))] [(0, Sx.ABk.cells false (1 : Nat) len (Sx.Cont.fn fun j => [Sx.AV.cpx true (re j) (im j)]))] (piececall2 Try.f13 (Sx.nav [1,1,1,1,1,0] (Sx.bodyOf Try.f13)) (Sx.frL [(0, Sx.slcV 0 len), (1, .int true .i64 f), (6, .sbool z)]) (Sx.hpL [(0, .cells false 1 len (.fn fun j => [.cpx true (re j) (im j)]))]) 1 [true]) := Sx.eqn (q := (True ∧ (z = true))) (by kernel_rfl) ⟨trivial, c0⟩
theorem rcZ_r1 (len : Nat) (f : Int) (z : Bool) (re im : Nat → Nat) (c0 : z = false) : Sx.PieceN 1 (Sx.Ex.normal) [(0, Sx.AV.slc true false (Sx.AA.mk false (0 : Nat) (0 : Nat) (0 : Nat)) len), (1, Sx.AV.int true IntKind.i64 f)] [(0, Sx.ABk.cells false (1 : Nat) len (Sx.Cont.fn fun j => [Sx.AV.cpx true (re j) (im j)]))] (piececall2 Try.f13 (Sx.nav [1,1,1,1,1,0] (Sx.bodyOf Try.f13)) (Sx.frL [(0, Sx.slcV 0 len), (1, .int true .i64 f), (6, .sbool z)]) (Sx.hpL [(0, .cells false 1 len (.fn fun j => [.cpx true (re j) (im j)]))]) 1 [false]) := Sx.eqn (q := (True ∧ (z = false))) (by kernel_rfl) ⟨trivial, c0⟩
theorem rcZ (B : Nat) (hB : B ≤ 1) (len : Nat) (f : Int) (z : Bool) (re im : Nat → Nat) : Sx.GoesB Try.prog (Sx.nav [1,1,1,1,1,0] (Sx.bodyOf Try.f13)) Try.f13.ntmps B 1 1 (Sx.frL [(0, Sx.slcV 0 len), (1, .int true .i64 f), (6, .sbool z)]) (Sx.hpL [(0, .cells false 1 len (.fn fun j => [.cpx true (re j) (im j)]))]) fun e fr' H' => (cond (z) (e = Sx.Ex.ret ∧ fr' = Sx.frL [(0, Sx.AV.slc true false (Sx.AA.mk false (0 : Nat) (0 : Nat) (0 : Nat)) len), (1, Sx.AV.int true IntKind.i64 f), (4, Sx.AV.int false IntKind.i64 (0 : Int)), (5, Sx.AV.int false IntKind.i64 (7 : Int))] ∧ H' = Sx.hpL [(0, Sx.ABk.cells false (1 : Nat) len (Sx.Cont.fn fun j => [Sx.AV.cpx true (re j) (im j)]))]) (e = Sx.Ex.normal ∧ fr' = Sx.frL [(0, Sx.AV.slc true false (Sx.AA.mk false (0 : Nat) (0 : Nat) (0 : Nat)) len), (1, Sx.AV.int true IntKind.i64 f)] ∧ H' = Sx.hpL [(0, Sx.ABk.cells false (1 : Nat) len (Sx.Cont.fn fun j => [Sx.AV.cpx true (re j) (im j)]))])) := by
 rcases Bool.eq_false_or_eq_true (z) with t0 | t0
 ·
  exact (Sx.GoesB.runN call2_ok (call2_reg _) (Sx.LoopsIn.none _ _ _) (rcZ_r0 len f z re im t0) hB).mono fun e fr' H' h => by simp only [t0, cond_true, cond_false]; exact h
 ·
  exact (Sx.GoesB.runN call2_ok (call2_reg _) (Sx.LoopsIn.none _ _ _) (rcZ_r1 len f z re im t0) hB).mono fun e fr' H' h => by simp only [t0, cond_true, cond_false]; exact h
theorem rcF_r0 (len : Nat) (f : Int) (re im : Nat → Nat) : Sx.PieceN 1 (Sx.Ex.normal) [(0, Sx.AV.slc true false (Sx.AA.mk false (0 : Nat) (0 : Nat) (0 : Nat)) len), (1, Sx.AV.int true IntKind.i64 f), (8, Sx.AV.int true IntKind.i64 f)] [(0, Sx.ABk.cells false (1 : Nat) len (Sx.Cont.fn fun j => [Sx.AV.cpx true (re j) (im j)]))] (piececall2 Try.f13 (Sx.nav [1,1,1,1,1,1,0] (Sx.bodyOf Try.f13)) (Sx.frL [(0, Sx.slcV 0 len), (1, .int true .i64 f)]) (Sx.hpL [(0, .cells false 1 len (.fn fun j => [.cpx true (re j) (im j)]))]) 1 []) := Sx.eqn (q := True) (by kernel_rfl) trivial
theorem rcF (B : Nat) (hB : B ≤ 1) (len : Nat) (f : Int) (re im : Nat → Nat) : Sx.GoesB Try.prog (Sx.nav [1,1,1,1,1,1,0] (Sx.bodyOf Try.f13)) Try.f13.ntmps B 1 1 (Sx.frL [(0, Sx.slcV 0 len), (1, .int true .i64 f)]) (Sx.hpL [(0, .cells false 1 len (.fn fun j => [.cpx true (re j) (im j)]))]) fun e fr' H' => (e = Sx.Ex.normal ∧ fr' = Sx.frL [(0, Sx.AV.slc true false (Sx.AA.mk false (0 : Nat) (0 : Nat) (0 : Nat)) len), (1, Sx.AV.int true IntKind.i64 f), (8, Sx.AV.int true IntKind.i64 f)] ∧ H' = Sx.hpL [(0, Sx.ABk.cells false (1 : Nat) len (Sx.Cont.fn fun j => [Sx.AV.cpx true (re j) (im j)]))]) := by
 exact (Sx.GoesB.runN call2_ok (call2_reg _) (Sx.LoopsIn.none _ _ _) (rcF_r0 len f re im) hB).mono fun e fr' H' h => h
theorem rcG_r0 (len i : Nat) (f : Int) (re im : Nat → Nat) : Sx.PieceN 1 (Sx.Ex.normal) [(0, Sx.AV.slc true false (Sx.AA.mk false (0 : Nat) (0 : Nat) (0 : Nat)) len), (1, Sx.AV.int true IntKind.i64 f), (8, Sx.AV.int true IntKind.i64 (↑i : Int)), (9, Sx.AV.bool true)] [(0, Sx.ABk.cells false (1 : Nat) len (Sx.Cont.fn fun j => [Sx.AV.cpx true (re j) (im j)]))] (piececall2 Try.f13 (Sx.nav [1,1,1,1,1,1,1,0,0,0,0,0] (Sx.bodyOf Try.f13)) (Sx.frL [(0, Sx.slcV 0 len), (1, .int true .i64 f), (8, .int true .i64 i)]) (Sx.hpL [(0, .cells false 1 len (.fn fun j => [.cpx true (re j) (im j)]))]) 1 []) := Sx.eqn (q := True) (by kernel_rfl) trivial
theorem rcG (B : Nat) (hB : B ≤ 1) (len i : Nat) (f : Int) (re im : Nat → Nat) : Sx.GoesB Try.prog (Sx.nav [1,1,1,1,1,1,1,0,0,0,0,0] (Sx.bodyOf Try.f13)) Try.f13.ntmps B 1 1 (Sx.frL [(0, Sx.slcV 0 len), (1, .int true .i64 f), (8, .int true .i64 i)]) (Sx.hpL [(0, .cells false 1 len (.fn fun j => [.cpx true (re j) (im j)]))]) fun e fr' H' => (e = Sx.Ex.normal ∧ fr' = Sx.frL [(0, Sx.AV.slc true false (Sx.AA.mk false (0 : Nat) (0 : Nat) (0 : Nat)) len), (1, Sx.AV.int true IntKind.i64 f), (8, Sx.AV.int true IntKind.i64 (↑i : Int)), (9, Sx.AV.bool true)] ∧ H' = Sx.hpL [(0, Sx.ABk.cells false (1 : Nat) len (Sx.Cont.fn fun j => [Sx.AV.cpx true (re j) (im j)]))]) := by
 exact (Sx.GoesB.runN call2_ok (call2_reg _) (Sx.LoopsIn.none _ _ _) (rcG_r0 len i f re im) hB).mono fun e fr' H' h => h
theorem rcH_r0 (len i : Nat) (f : Int) (re im : Nat → Nat) : Sx.PieceN 1 (Sx.Ex.normal) [(0, Sx.AV.slc true false (Sx.AA.mk false (0 : Nat) (0 : Nat) (0 : Nat)) len), (1, Sx.AV.int true IntKind.i64 f), (8, Sx.AV.int true IntKind.i64 (↑i : Int)), (9, Sx.AV.bool true), (10, Sx.AV.int true IntKind.i64 f)] [(0, Sx.ABk.cells false (1 : Nat) len (Sx.Cont.fn fun j => [Sx.AV.cpx true (re j) (im j)]))] (piececall2 Try.f13 (Sx.nav [1,1,1,1,1,1,1,0,0,0,0,1,0,0] (Sx.bodyOf Try.f13)) (Sx.frL [(0, Sx.slcV 0 len), (1, .int true .i64 f), (8, .int true .i64 i), (9, .bool true)]) (Sx.hpL [(0, .cells false 1 len (.fn fun j => [.cpx true (re j) (im j)]))]) 1 []) := Sx.eqn (q := True) (by kernel_rfl) trivial
theorem rcH (B : Nat) (hB : B ≤ 1) (len i : Nat) (f : Int) (re im : Nat → Nat) : Sx.GoesB Try.prog (Sx.nav [1,1,1,1,1,1,1,0,0,0,0,1,0,0] (Sx.bodyOf Try.f13)) Try.f13.ntmps B 1 1 (Sx.frL [(0, Sx.slcV 0 len), (1, .int true .i64 f), (8, .int true .i64 i), (9, .bool true)]) (Sx.hpL [(0, .cells false 1 len (.fn fun j => [.cpx true (re j) (im j)]))]) fun e fr' H' => (e = Sx.Ex.normal ∧ fr' = Sx.frL [(0, Sx.AV.slc true false (Sx.AA.mk false (0 : Nat) (0 : Nat) (0 : Nat)) len), (1, Sx.AV.int true IntKind.i64 f), (8, Sx.AV.int true IntKind.i64 (↑i : Int)), (9, Sx.AV.bool true), (10, Sx.AV.int true IntKind.i64 f)] ∧ H' = Sx.hpL [(0, Sx.ABk.cells false (1 : Nat) len (Sx.Cont.fn fun j => [Sx.AV.cpx true (re j) (im j)]))]) := by
 exact (Sx.GoesB.runN call2_ok (call2_reg _) (Sx.LoopsIn.none _ _ _) (rcH_r0 len i f re im) hB).mono fun e fr' H' h => h
theorem rcM_r0 (len i k : Nat) (f : Int) (z : Bool) (re im : Nat → Nat) (c0 : decide ((↑k : Int) < (↑len : Int)) = true) (c1 : z = true) (c2 : (0 : Int) ≤ (↑k : Int)) (c3 : (↑k : Int) < (↑len : Int)) (c4 : (0 : Nat) + k < len) (c5 : (0 : Int) ≤ (↑i : Int)) (c6 : (↑i : Int) < (↑len : Int)) (c7 : (0 : Nat) + i < len) (c8 : (-9223372036854775808 : Int) ≤ (↑k : Int) + (1 : Int)) (c9 : (↑k : Int) + (1 : Int) ≤ (9223372036854775807 : Int)) : Sx.PieceN 1 (Sx.Ex.normal) [(0, Sx.AV.slc true false (Sx.AA.mk false (0 : Nat) (0 : Nat) (0 : Nat)) len), (1, Sx.AV.int true IntKind.i64 f), (8, Sx.AV.int true IntKind.i64 (↑i : Int)), (9, Sx.AV.sbool !Sx.fgt (Sx.fadd (Sx.fabs (re ((0 : Nat) + k))) (Sx.fabs (im ((0 : Nat) + k)))) (Sx.fadd (Sx.fabs (re ((0 : Nat) + i))) (Sx.fabs (im ((0 : Nat) + i))))), (10, Sx.AV.int true IntKind.i64 ((↑k : Int) + (1 : Int)))] [(0, Sx.ABk.cells false (1 : Nat) len (Sx.Cont.fn fun j => [Sx.AV.cpx true (re j) (im j)]))] (piececall2 Try.f13 (Sx.nav [1,1,1,1,1,1,1,0,0,0,0,1,0,1,0,0] (Sx.bodyOf Try.f13)) (Sx.frL [(0, Sx.slcV 0 len), (1, .int true .i64 f), (8, .int true .i64 i), (9, .sbool z), (10, .int true .i64 k)]) (Sx.hpL [(0, .cells false 1 len (.fn fun j => [.cpx true (re j) (im j)]))]) 1 [true, true]) := Sx.eqn (q := (((((((True ∧ (decide ((↑k : Int) < (↑len : Int)) = true)) ∧ (z = true)) ∧ (((0 : Int) ≤ (↑k : Int)) ∧ ((↑k : Int) < (↑len : Int)))) ∧ ((0 : Nat) + k < len)) ∧ (((0 : Int) ≤ (↑i : Int)) ∧ ((↑i : Int) < (↑len : Int)))) ∧ ((0 : Nat) + i < len)) ∧ (((-9223372036854775808 : Int) ≤ (↑k : Int) + (1 : Int)) ∧ ((↑k : Int) + (1 : Int) ≤ (9223372036854775807 : Int))))) (by kernel_rfl) ⟨⟨⟨⟨⟨⟨⟨trivial, c0⟩, c1⟩, ⟨c2, c3⟩⟩, c4⟩, ⟨c5, c6⟩⟩, c7⟩, ⟨c8, c9⟩⟩
theorem rcM_r1 (len i k : Nat) (f : Int) (z : Bool) (re im : Nat → Nat) (c0 : decide ((↑k : Int) < (↑len : Int)) = true) (c1 : z = false) (c2 : (-9223372036854775808 : Int) ≤ (↑k : Int) + (1 : Int)) (c3 : (↑k : Int) + (1 : Int) ≤ (9223372036854775807 : Int)) : Sx.PieceN 1 (Sx.Ex.normal) [(0, Sx.AV.slc true false (Sx.AA.mk false (0 : Nat) (0 : Nat) (0 : Nat)) len), (1, Sx.AV.int true IntKind.i64 f), (8, Sx.AV.int true IntKind.i64 (↑i : Int)), (9, Sx.AV.bool false), (10, Sx.AV.int true IntKind.i64 ((↑k : Int) + (1 : Int)))] [(0, Sx.ABk.cells false (1 : Nat) len (Sx.Cont.fn fun j => [Sx.AV.cpx true (re j) (im j)]))] (piececall2 Try.f13 (Sx.nav [1,1,1,1,1,1,1,0,0,0,0,1,0,1,0,0] (Sx.bodyOf Try.f13)) (Sx.frL [(0, Sx.slcV 0 len), (1, .int true .i64 f), (8, .int true .i64 i), (9, .sbool z), (10, .int true .i64 k)]) (Sx.hpL [(0, .cells false 1 len (.fn fun j => [.cpx true (re j) (im j)]))]) 1 [true, false]) := Sx.eqn (q := (((True ∧ (decide ((↑k : Int) < (↑len : Int)) = true)) ∧ (z = false)) ∧ (((-9223372036854775808 : Int) ≤ (↑k : Int) + (1 : Int)) ∧ ((↑k : Int) + (1 : Int) ≤ (9223372036854775807 : Int))))) (by kernel_rfl) ⟨⟨⟨trivial, c0⟩, c1⟩, ⟨c2, c3⟩⟩
theorem rcM_r2 (len i k : Nat) (f : Int) (z : Bool) (re im : Nat → Nat) (c0 : decide ((↑k : Int) < (↑len : Int)) = false) : Sx.PieceN 1 (Sx.Ex.exit (4 : Nat)) [(0, Sx.AV.slc true false (Sx.AA.mk false (0 : Nat) (0 : Nat) (0 : Nat)) len), (1, Sx.AV.int true IntKind.i64 f), (8, Sx.AV.int true IntKind.i64 (↑i : Int)), (9, Sx.AV.sbool z), (10, Sx.AV.int true IntKind.i64 (↑k : Int))] [(0, Sx.ABk.cells false (1 : Nat) len (Sx.Cont.fn fun j => [Sx.AV.cpx true (re j) (im j)]))] (piececall2 Try.f13 (Sx.nav [1,1,1,1,1,1,1,0,0,0,0,1,0,1,0,0] (Sx.bodyOf Try.f13)) (Sx.frL [(0, Sx.slcV 0 len), (1, .int true .i64 f), (8, .int true .i64 i), (9, .sbool z), (10, .int true .i64 k)]) (Sx.hpL [(0, .cells false 1 len (.fn fun j => [.cpx true (re j) (im j)]))]) 1 [false]) := Sx.eqn (q := (True ∧ (decide ((↑k : Int) < (↑len : Int)) = false))) (by kernel_rfl) ⟨trivial, c0⟩
theorem rcM (B : Nat) (hB : B ≤ 1) (len i k : Nat) (f : Int) (z : Bool) (re im : Nat → Nat) (x0 : ((decide ((↑k : Int) < (↑len : Int))) = true → ((z) = true → ((↑i : Int) < (↑len : Int))))) (x1 : ((decide ((↑k : Int) < (↑len : Int))) = true → ((z) = true → ((0 : Nat) + i < len)))) (x2 : ((decide ((↑k : Int) < (↑len : Int))) = true → ((↑k : Int) + (1 : Int) ≤ (9223372036854775807 : Int)))) : Sx.GoesB Try.prog (Sx.nav [1,1,1,1,1,1,1,0,0,0,0,1,0,1,0,0] (Sx.bodyOf Try.f13)) Try.f13.ntmps B 1 1 (Sx.frL [(0, Sx.slcV 0 len), (1, .int true .i64 f), (8, .int true .i64 i), (9, .sbool z), (10, .int true .i64 k)]) (Sx.hpL [(0, .cells false 1 len (.fn fun j => [.cpx true (re j) (im j)]))]) fun e fr' H' => (cond (decide ((↑k : Int) < (↑len : Int))) (cond (z) (e = Sx.Ex.normal ∧ fr' = Sx.frL [(0, Sx.AV.slc true false (Sx.AA.mk false (0 : Nat) (0 : Nat) (0 : Nat)) len), (1, Sx.AV.int true IntKind.i64 f), (8, Sx.AV.int true IntKind.i64 (↑i : Int)), (9, Sx.AV.sbool !Sx.fgt (Sx.fadd (Sx.fabs (re ((0 : Nat) + k))) (Sx.fabs (im ((0 : Nat) + k)))) (Sx.fadd (Sx.fabs (re ((0 : Nat) + i))) (Sx.fabs (im ((0 : Nat) + i))))), (10, Sx.AV.int true IntKind.i64 ((↑k : Int) + (1 : Int)))] ∧ H' = Sx.hpL [(0, Sx.ABk.cells false (1 : Nat) len (Sx.Cont.fn fun j => [Sx.AV.cpx true (re j) (im j)]))]) (e = Sx.Ex.normal ∧ fr' = Sx.frL [(0, Sx.AV.slc true false (Sx.AA.mk false (0 : Nat) (0 : Nat) (0 : Nat)) len), (1, Sx.AV.int true IntKind.i64 f), (8, Sx.AV.int true IntKind.i64 (↑i : Int)), (9, Sx.AV.bool false), (10, Sx.AV.int true IntKind.i64 ((↑k : Int) + (1 : Int)))] ∧ H' = Sx.hpL [(0, Sx.ABk.cells false (1 : Nat) len (Sx.Cont.fn fun j => [Sx.AV.cpx true (re j) (im j)]))])) (e = Sx.Ex.exit (4 : Nat) ∧ fr' = Sx.frL [(0, Sx.AV.slc true false (Sx.AA.mk false (0 : Nat) (0 : Nat) (0 : Nat)) len), (1, Sx.AV.int true IntKind.i64 f), (8, Sx.AV.int true IntKind.i64 (↑i : Int)), (9, Sx.AV.sbool z), (10, Sx.AV.int true IntKind.i64 (↑k : Int))] ∧ H' = Sx.hpL [(0, Sx.ABk.cells false (1 : Nat) len (Sx.Cont.fn fun j => [Sx.AV.cpx true (re j) (im j)]))])) := by
 cases t0 : decide ((↑k : Int) < (↑len : Int)) with
 | true =>
  rcases Bool.eq_false_or_eq_true (z) with t1 | t1
  ·
   exact (Sx.GoesB.runN call2_ok (call2_reg _) (Sx.LoopsIn.none _ _ _) (rcM_r0 len i k f z re im t0 t1 (by first | decide | ((try simp only [decide_eq_true_eq, decide_eq_false_iff_not] at t0 t1); (try simp only [List.length_take, List.length_drop]); omega)) (by first | decide | ((try simp only [decide_eq_true_eq, decide_eq_false_iff_not] at t0 t1); (try simp only [List.length_take, List.length_drop]); omega)) (by first | decide | ((try simp only [decide_eq_true_eq, decide_eq_false_iff_not] at t0 t1); (try simp only [List.length_take, List.length_drop]); omega)) (by first | decide | ((try simp only [decide_eq_true_eq, decide_eq_false_iff_not] at t0 t1); (try simp only [List.length_take, List.length_drop]); omega)) (x0 t0 t1) (x1 t0 t1) (by first | decide | ((try simp only [decide_eq_true_eq, decide_eq_false_iff_not] at t0 t1); (try simp only [List.length_take, List.length_drop]); omega)) (x2 t0)) hB).mono fun e fr' H' h => by simp only [t0, t1, cond_true, cond_false]; exact h
  ·
   exact (Sx.GoesB.runN call2_ok (call2_reg _) (Sx.LoopsIn.none _ _ _) (rcM_r1 len i k f z re im t0 t1 (by first | decide | ((try simp only [decide_eq_true_eq, decide_eq_false_iff_not] at t0 t1); (try simp only [List.length_take, List.length_drop]); omega)) (x2 t0)) hB).mono fun e fr' H' h => by simp only [t0, t1, cond_true, cond_false]; exact h
 | false =>
  exact (Sx.GoesB.runN call2_ok (call2_reg _) (Sx.LoopsIn.none _ _ _) (rcM_r2 len i k f z re im t0) hB).mono fun e fr' H' h => by simp only [t0, cond_true, cond_false]; exact h
theorem rcN_r0 (len i : Nat) (f : Int) (z : Bool) (re im : Nat → Nat) (c0 : z = true) : Sx.PieceN 1 (Sx.Ex.ret) [(0, Sx.AV.slc true false (Sx.AA.mk false (0 : Nat) (0 : Nat) (0 : Nat)) len), (1, Sx.AV.int true IntKind.i64 f), (4, Sx.AV.int true IntKind.i64 (↑i : Int)), (5, Sx.AV.int false IntKind.i64 (0 : Int)), (8, Sx.AV.int true IntKind.i64 (↑i : Int))] [(0, Sx.ABk.cells false (1 : Nat) len (Sx.Cont.fn fun j => [Sx.AV.cpx true (re j) (im j)]))] (piececall2 Try.f13 (Sx.nav [1,1,1,1,1,1,1,0,0,0,0,1,1] (Sx.bodyOf Try.f13)) (Sx.frL [(0, Sx.slcV 0 len), (1, .int true .i64 f), (8, .int true .i64 i), (9, .sbool z)]) (Sx.hpL [(0, .cells false 1 len (.fn fun j => [.cpx true (re j) (im j)]))]) 1 [true]) := Sx.eqn (q := (True ∧ (z = true))) (by kernel_rfl) ⟨trivial, c0⟩
theorem rcN_r1 (len i : Nat) (f : Int) (z : Bool) (re im : Nat → Nat) (c0 : z = false) : Sx.PieceN 1 (Sx.Ex.normal) [(0, Sx.AV.slc true false (Sx.AA.mk false (0 : Nat) (0 : Nat) (0 : Nat)) len), (1, Sx.AV.int true IntKind.i64 f), (8, Sx.AV.int true IntKind.i64 (↑i : Int))] [(0, Sx.ABk.cells false (1 : Nat) len (Sx.Cont.fn fun j => [Sx.AV.cpx true (re j) (im j)]))] (piececall2 Try.f13 (Sx.nav [1,1,1,1,1,1,1,0,0,0,0,1,1] (Sx.bodyOf Try.f13)) (Sx.frL [(0, Sx.slcV 0 len), (1, .int true .i64 f), (8, .int true .i64 i), (9, .sbool z)]) (Sx.hpL [(0, .cells false 1 len (.fn fun j => [.cpx true (re j) (im j)]))]) 1 [false]) := Sx.eqn (q := (True ∧ (z = false))) (by kernel_rfl) ⟨trivial, c0⟩
theorem rcN (B : Nat) (hB : B ≤ 1) (len i : Nat) (f : Int) (z : Bool) (re im : Nat → Nat) : Sx.GoesB Try.prog (Sx.nav [1,1,1,1,1,1,1,0,0,0,0,1,1] (Sx.bodyOf Try.f13)) Try.f13.ntmps B 1 1 (Sx.frL [(0, Sx.slcV 0 len), (1, .int true .i64 f), (8, .int true .i64 i), (9, .sbool z)]) (Sx.hpL [(0, .cells false 1 len (.fn fun j => [.cpx true (re j) (im j)]))]) fun e fr' H' => (cond (z) (e = Sx.Ex.ret ∧ fr' = Sx.frL [(0, Sx.AV.slc true false (Sx.AA.mk false (0 : Nat) (0 : Nat) (0 : Nat)) len), (1, Sx.AV.int true IntKind.i64 f), (4, Sx.AV.int true IntKind.i64 (↑i : Int)), (5, Sx.AV.int false IntKind.i64 (0 : Int)), (8, Sx.AV.int true IntKind.i64 (↑i : Int))] ∧ H' = Sx.hpL [(0, Sx.ABk.cells false (1 : Nat) len (Sx.Cont.fn fun j => [Sx.AV.cpx true (re j) (im j)]))]) (e = Sx.Ex.normal ∧ fr' = Sx.frL [(0, Sx.AV.slc true false (Sx.AA.mk false (0 : Nat) (0 : Nat) (0 : Nat)) len), (1, Sx.AV.int true IntKind.i64 f), (8, Sx.AV.int true IntKind.i64 (↑i : Int))] ∧ H' = Sx.hpL [(0, Sx.ABk.cells false (1 : Nat) len (Sx.Cont.fn fun j => [Sx.AV.cpx true (re j) (im j)]))])) := by
 rcases Bool.eq_false_or_eq_true (z) with t0 | t0
 ·
  exact (Sx.GoesB.runN call2_ok (call2_reg _) (Sx.LoopsIn.none _ _ _) (rcN_r0 len i f z re im t0) hB).mono fun e fr' H' h => by simp only [t0, cond_true, cond_false]; exact h
 ·
  exact (Sx.GoesB.runN call2_ok (call2_reg _) (Sx.LoopsIn.none _ _ _) (rcN_r1 len i f z re im t0) hB).mono fun e fr' H' h => by simp only [t0, cond_true, cond_false]; exact h
theorem rcO_r0 (len i : Nat) (f : Int) (re im : Nat → Nat) (c0 : (-9223372036854775808 : Int) ≤ (↑i : Int) + (1 : Int)) (c1 : (↑i : Int) + (1 : Int) ≤ (9223372036854775807 : Int)) : Sx.PieceN 1 (Sx.Ex.normal) [(0, Sx.AV.slc true false (Sx.AA.mk false (0 : Nat) (0 : Nat) (0 : Nat)) len), (1, Sx.AV.int true IntKind.i64 f), (8, Sx.AV.int true IntKind.i64 ((↑i : Int) + (1 : Int)))] [(0, Sx.ABk.cells false (1 : Nat) len (Sx.Cont.fn fun j => [Sx.AV.cpx true (re j) (im j)]))] (piececall2 Try.f13 (Sx.nav [1,1,1,1,1,1,1,0,0,1] (Sx.bodyOf Try.f13)) (Sx.frL [(0, Sx.slcV 0 len), (1, .int true .i64 f), (8, .int true .i64 i)]) (Sx.hpL [(0, .cells false 1 len (.fn fun j => [.cpx true (re j) (im j)]))]) 1 []) := Sx.eqn (q := (True ∧ (((-9223372036854775808 : Int) ≤ (↑i : Int) + (1 : Int)) ∧ ((↑i : Int) + (1 : Int) ≤ (9223372036854775807 : Int))))) (by kernel_rfl) ⟨trivial, ⟨c0, c1⟩⟩
theorem rcO (B : Nat) (hB : B ≤ 1) (len i : Nat) (f : Int) (re im : Nat → Nat) (x0 : ((↑i : Int) + (1 : Int) ≤ (9223372036854775807 : Int))) : Sx.GoesB Try.prog (Sx.nav [1,1,1,1,1,1,1,0,0,1] (Sx.bodyOf Try.f13)) Try.f13.ntmps B 1 1 (Sx.frL [(0, Sx.slcV 0 len), (1, .int true .i64 f), (8, .int true .i64 i)]) (Sx.hpL [(0, .cells false 1 len (.fn fun j => [.cpx true (re j) (im j)]))]) fun e fr' H' => (e = Sx.Ex.normal ∧ fr' = Sx.frL [(0, Sx.AV.slc true false (Sx.AA.mk false (0 : Nat) (0 : Nat) (0 : Nat)) len), (1, Sx.AV.int true IntKind.i64 f), (8, Sx.AV.int true IntKind.i64 ((↑i : Int) + (1 : Int)))] ∧ H' = Sx.hpL [(0, Sx.ABk.cells false (1 : Nat) len (Sx.Cont.fn fun j => [Sx.AV.cpx true (re j) (im j)]))]) := by
 exact (Sx.GoesB.runN call2_ok (call2_reg _) (Sx.LoopsIn.none _ _ _) (rcO_r0 len i f re im (by first | decide | omega) (x0)) hB).mono fun e fr' H' h => h
theorem cfin_nn {re im : Nat → Nat} {j : Nat} (h : cfin re im j = true) : Sx.isnan (re j) = false ∧ Sx.isnan (im j) = false := by
 unfold cfin fin_0 at h
 cases h1 : Sx.feq (Sx.fsub (re j) (re j)) 0 with
 | true =>
  rw [h1, cond_true] at h
  exact ⟨Sx.fin_nn h1, Sx.fin_nn h⟩
 | false => rw [h1, cond_false] at h; cases h
theorem cgt_ordered {re im : Nat → Nat} {f n : Nat} (h : ∀ j, f ≤ j → j < f + n → cfin re im j = true) : Sx.Ordered (cgt re im) (fun j => Sx.rk (Sx.size1 (re j) (im j))) f n := fun k i h1 h2 h3 h4 =>
 Sx.size1_gt (cfin_nn (h k h1 h2)).1 (cfin_nn (h k h1 h2)).2 (cfin_nn (h i h3 h4)).1 (cfin_nn (h i h3 h4)).2
def rcI (len fN : Nat) (f : Int) (re im : Nat → Nat) (k : Nat) (fr : Sx.Fr) (H : Sx.T Sx.ABk) : Prop :=
 ∃ n : Nat, k = len - (fN + n) ∧ fN + n ≤ len ∧ (∀ j, fN ≤ j → j < fN + n → cfin re im j = true) ∧ fr = Sx.frL [(0, Sx.slcV 0 len), (1, .int true .i64 f), (6, .sbool (Sx.cd (∀ j, fN ≤ j → j < fN + (n) → czer re im j = true))), (7, .int true .i64 ((fN + (n) : Nat) : Int))] ∧ H = Sx.hpL [(0, .cells false 1 len (.fn fun j => [.cpx true (re j) (im j)]))]
def rcP (len fN : Nat) (f : Int) (re im : Nat → Nat) : Sx.Po := fun e fr H => (e = .exit 0 ∧ (∀ j, fN ≤ j → j < fN + (len - fN) → cfin re im j = true) ∧ fr = Sx.frL [(0, Sx.slcV 0 len), (1, .int true .i64 f), (6, .sbool (Sx.cd (∀ j, fN ≤ j → j < fN + (len - fN) → czer re im j = true)))] ∧ H = Sx.hpL [(0, .cells false 1 len (.fn fun j => [.cpx true (re j) (im j)]))]) ∨
 (e = .ret ∧ ¬ (∀ j, fN ≤ j → j < fN + (len - fN) → cfin re im j = true) ∧ fr = Sx.frL [(4, .int true .i64 0), (5, .int true .i64 5)] ∧ H = Sx.hpL [])
theorem rc_body (len fN : Nat) (f : Int) (re im : Nat → Nat) (hlen : len ≤ 64) (k : Nat) (fr : Sx.Fr) (H : Sx.T Sx.ABk) (hI : rcI len fN f re im k fr H) :
  Sx.GoesB Try.prog (Sx.nav [1,1,1,1,0,1,0,0] (Sx.bodyOf Try.f13)) Try.f13.ntmps 1 1 1 fr H fun e fr' H' => match e with
   | .normal => ∃ k', k' < k ∧ rcI len fN f re im k' fr' H'
   | e => rcP len fN f re im e fr' H' := by
 obtain ⟨n, rfl, hn, hf, rfl, rfl⟩ := hI
 have hx : decide (((fN + n : Nat) : Int) < (len : Int)) = true → fN + n < len := fun t => by have := of_decide_eq_true t; omega
 have hB := rcL 1 (by omega) len (fN + n) f (Sx.cd (∀ j, fN ≤ j → j < fN + n → czer re im j = true)) re im (fun t _ => by have := hx t; omega)
 simp only [Nat.zero_add, Int.toNat_natCast] at hB
 refine hB.post fun e fr' H' h => ?_
 refine Sx.cond_elim h (fun t h => ?_) (fun t h => ?_)
 ·have hlt := hx t
  refine Sx.cond_elim h (fun t1 h => ?_) (fun t1 h => ?_)
  ·have hf' : ∀ j, fN ≤ j → j < fN + (n + 1) → cfin re im j = true := fun j h1 h2 => by
    by_cases e : j < fN + n
    ·exact hf j h1 e
    ·rw [show j = fN + n by omega]; exact t1
   refine Sx.cond_elim h (fun t2 h => ?_) (fun t2 h => ?_)
   ·obtain ⟨rfl, rfl, rfl⟩ := h
    exact ⟨[(0, Sx.slcV 0 len), (1, .int true .i64 f), (6, .sbool (Sx.cd (∀ j, fN ≤ j → j < fN + (n + 1) → czer re im j = true))), (7, .int true .i64 ((fN + (n + 1) : Nat) : Int))], [(0, .cells false 1 len (.fn fun j => [.cpx true (re j) (im j)]))], ⟨⟨_, rfl, Sx.AV.ge.refl _⟩, ⟨_, rfl, Sx.AV.ge.refl _⟩, ⟨_, rfl, Sx.AV.ge.sbool' (by rw [Sx.cd_step, t2]; rfl)⟩, ⟨_, rfl, Sx.AV.ge.int _ _ _ _⟩, trivial⟩, ⟨⟨_, rfl, Sx.SameC.refl _⟩, trivial⟩, len - (fN + (n + 1)), by omega, n + 1, rfl, by omega, hf', rfl, rfl⟩
   ·obtain ⟨rfl, rfl, rfl⟩ := h
    exact ⟨[(0, Sx.slcV 0 len), (1, .int true .i64 f), (6, .sbool (Sx.cd (∀ j, fN ≤ j → j < fN + (n + 1) → czer re im j = true))), (7, .int true .i64 ((fN + (n + 1) : Nat) : Int))], [(0, .cells false 1 len (.fn fun j => [.cpx true (re j) (im j)]))], ⟨⟨_, rfl, Sx.AV.ge.refl _⟩, ⟨_, rfl, Sx.AV.ge.refl _⟩, ⟨_, rfl, Sx.AV.ge.bool' (by rw [Sx.cd_step, t2]; rfl)⟩, ⟨_, rfl, Sx.AV.ge.int _ _ _ _⟩, trivial⟩, ⟨⟨_, rfl, Sx.SameC.refl _⟩, trivial⟩, len - (fN + (n + 1)), by omega, n + 1, rfl, by omega, hf', rfl, rfl⟩
  ·obtain ⟨rfl, rfl, rfl⟩ := h
   exact ⟨[(4, .int true .i64 0), (5, .int true .i64 5)], [], ⟨⟨_, rfl, Sx.AV.ge.int _ _ _ _⟩, ⟨_, rfl, Sx.AV.ge.int _ _ _ _⟩, trivial⟩, trivial, .inr ⟨rfl, (fun hh => by have := hh (fN + n) (by omega) (by omega); rw [show cfin re im (fN + n) = false from t1] at this; cases this), rfl, rfl⟩⟩
 ·have e : n = len - fN := by have := of_decide_eq_false t; omega
  subst e
  obtain ⟨rfl, rfl, rfl⟩ := h
  exact ⟨[(0, Sx.slcV 0 len), (1, .int true .i64 f), (6, .sbool (Sx.cd (∀ j, fN ≤ j → j < fN + (len - fN) → czer re im j = true)))], [(0, .cells false 1 len (.fn fun j => [.cpx true (re j) (im j)]))], ⟨⟨_, rfl, Sx.AV.ge.refl _⟩, ⟨_, rfl, Sx.AV.ge.refl _⟩, ⟨_, rfl, Sx.AV.ge.refl _⟩, trivial⟩, ⟨⟨_, rfl, Sx.SameC.refl _⟩, trivial⟩, .inl ⟨rfl, hf, rfl, rfl⟩⟩
def rmI (len fN i : Nat) (f : Int) (re im : Nat → Nat) (k : Nat) (fr : Sx.Fr) (H : Sx.T Sx.ABk) : Prop :=
 ∃ n : Nat, k = len - (fN + n) ∧ fN + n ≤ len ∧ fr = Sx.frL [(0, Sx.slcV 0 len), (1, .int true .i64 f), (8, .int true .i64 (i : Nat)), (9, .sbool (Sx.cd (∀ j, fN ≤ j → j < fN + (n) → (!cgt re im j i) = true))), (10, .int true .i64 ((fN + (n) : Nat) : Int))] ∧ H = Sx.hpL [(0, .cells false 1 len (.fn fun j => [.cpx true (re j) (im j)]))]
def rmP (len fN i : Nat) (f : Int) (re im : Nat → Nat) : Sx.Po := fun e fr H => e = .exit 4 ∧ fr = Sx.frL [(0, Sx.slcV 0 len), (1, .int true .i64 f), (8, .int true .i64 (i : Nat)), (9, .sbool (Sx.cd (∀ j, fN ≤ j → j < fN + (len - fN) → (!cgt re im j i) = true)))] ∧ H = Sx.hpL [(0, .cells false 1 len (.fn fun j => [.cpx true (re j) (im j)]))]
theorem rm_body (len fN i : Nat) (f : Int) (re im : Nat → Nat) (hi : i < len) (hlen : len ≤ 64) (k : Nat) (fr : Sx.Fr) (H : Sx.T Sx.ABk) (hI : rmI len fN i f re im k fr H) :
  Sx.GoesB Try.prog (Sx.nav [1,1,1,1,1,1,1,0,0,0,0,1,0,1,0,0] (Sx.bodyOf Try.f13)) Try.f13.ntmps 1 1 1 fr H fun e fr' H' => match e with
   | .normal => ∃ k', k' < k ∧ rmI len fN i f re im k' fr' H'
   | e => rmP len fN i f re im e fr' H' := by
 obtain ⟨n, rfl, hn, rfl, rfl⟩ := hI
 have hx : decide (((fN + n : Nat) : Int) < (len : Int)) = true → fN + n < len := fun t => by have := of_decide_eq_true t; omega
 have hB := rcM 1 (by omega) len i (fN + n) f (Sx.cd (∀ j, fN ≤ j → j < fN + n → (!cgt re im j i) = true)) re im (fun t _ => by omega) (fun t _ => by omega) (fun t => by have := hx t; omega)
 simp only [Nat.zero_add, Int.toNat_natCast] at hB
 refine hB.post fun e fr' H' h => ?_
 refine Sx.cond_elim h (fun t h => ?_) (fun t h => ?_)
 ·have hlt := hx t
  refine Sx.cond_elim h (fun t2 h => ?_) (fun t2 h => ?_)
  ·obtain ⟨rfl, rfl, rfl⟩ := h
   exact ⟨[(0, Sx.slcV 0 len), (1, .int true .i64 f), (8, .int true .i64 (i : Nat)), (9, .sbool (Sx.cd (∀ j, fN ≤ j → j < fN + (n + 1) → (!cgt re im j i) = true))), (10, .int true .i64 ((fN + (n + 1) : Nat) : Int))], [(0, .cells false 1 len (.fn fun j => [.cpx true (re j) (im j)]))], ⟨⟨_, rfl, Sx.AV.ge.refl _⟩, ⟨_, rfl, Sx.AV.ge.refl _⟩, ⟨_, rfl, Sx.AV.ge.refl _⟩, ⟨_, rfl, Sx.AV.ge.sbool' (by rw [Sx.cd_step (fun j => !cgt re im j i), t2]; rfl)⟩, ⟨_, rfl, Sx.AV.ge.int _ _ _ _⟩, trivial⟩, ⟨⟨_, rfl, Sx.SameC.refl _⟩, trivial⟩, len - (fN + (n + 1)), by omega, n + 1, rfl, by omega, rfl, rfl⟩
  ·obtain ⟨rfl, rfl, rfl⟩ := h
   exact ⟨[(0, Sx.slcV 0 len), (1, .int true .i64 f), (8, .int true .i64 (i : Nat)), (9, .sbool (Sx.cd (∀ j, fN ≤ j → j < fN + (n + 1) → (!cgt re im j i) = true))), (10, .int true .i64 ((fN + (n + 1) : Nat) : Int))], [(0, .cells false 1 len (.fn fun j => [.cpx true (re j) (im j)]))], ⟨⟨_, rfl, Sx.AV.ge.refl _⟩, ⟨_, rfl, Sx.AV.ge.refl _⟩, ⟨_, rfl, Sx.AV.ge.refl _⟩, ⟨_, rfl, Sx.AV.ge.bool' (by rw [Sx.cd_step (fun j => !cgt re im j i), t2]; rfl)⟩, ⟨_, rfl, Sx.AV.ge.int _ _ _ _⟩, trivial⟩, ⟨⟨_, rfl, Sx.SameC.refl _⟩, trivial⟩, len - (fN + (n + 1)), by omega, n + 1, rfl, by omega, rfl, rfl⟩
 ·have e : n = len - fN := by have := of_decide_eq_false t; omega
  subst e
  obtain ⟨rfl, rfl, rfl⟩ := h
  exact ⟨[(0, Sx.slcV 0 len), (1, .int true .i64 f), (8, .int true .i64 (i : Nat)), (9, .sbool (Sx.cd (∀ j, fN ≤ j → j < fN + (len - fN) → (!cgt re im j i) = true)))], [(0, .cells false 1 len (.fn fun j => [.cpx true (re j) (im j)]))], ⟨⟨_, rfl, Sx.AV.ge.refl _⟩, ⟨_, rfl, Sx.AV.ge.refl _⟩, ⟨_, rfl, Sx.AV.ge.refl _⟩, ⟨_, rfl, Sx.AV.ge.refl _⟩, trivial⟩, ⟨⟨_, rfl, Sx.SameC.refl _⟩, trivial⟩, rfl, rfl, rfl⟩
def roI (len fN : Nat) (f : Int) (re im : Nat → Nat) (k : Nat) (fr : Sx.Fr) (H : Sx.T Sx.ABk) : Prop :=
 ∃ i : Nat, fN ≤ i ∧ i ≤ Sx.bst (cgt re im) fN (len - fN) ∧ k = Sx.bst (cgt re im) fN (len - fN) - i ∧ fr = Sx.frL [(0, Sx.slcV 0 len), (1, .int true .i64 f), (8, .int true .i64 (i : Nat))] ∧ H = Sx.hpL [(0, .cells false 1 len (.fn fun j => [.cpx true (re j) (im j)]))]
def roP (len fN : Nat) (re im : Nat → Nat) : Sx.Po := fun e fr H => e = .ret ∧ ∃ s s', fr.get 4 = some (.int s .i64 (Sx.bst (cgt re im) fN (len - fN) : Nat)) ∧ fr.get 5 = some (.int s' .i64 0)
theorem ro_is : Sx.nav [1,1,1,1,1,1,1,0,0] (Sx.bodyOf Try.f13) = .seq (.block 3 (.seq (Sx.nav [1,1,1,1,1,1,1,0,0,0,0,0] (Sx.bodyOf Try.f13)) (.seq (.seq (Sx.nav [1,1,1,1,1,1,1,0,0,0,0,1,0,0] (Sx.bodyOf Try.f13)) (.block 4 (.loop (Sx.nav [1,1,1,1,1,1,1,0,0,0,0,1,0,1,0,0] (Sx.bodyOf Try.f13))))) (Sx.nav [1,1,1,1,1,1,1,0,0,0,0,1,1] (Sx.bodyOf Try.f13))))) (Sx.nav [1,1,1,1,1,1,1,0,0,1] (Sx.bodyOf Try.f13)) := by kernel_rfl
end Go.Proofs.Ytehhljcjdiokjaa
