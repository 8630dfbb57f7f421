/- PowerMeans: a part: summaries of functions that the statement reaches, printed by program, checked by the kernel. -/
import Derived.ProofKit
import Derived.OpenShut
import Derived.KernelRfl
import Derived.SizedLaws
import Derived.Test.YtmmogbldndklnaaProg
import Derived.Test.YtmmogbldndklnaaPowerMeansPA
namespace Go.Proofs.Ytmmogbldndklnaa
open Go.ChangeShapes Go.WideShapes Go.ChangeAt Go.RowKit Go.Sx
set_option linter.unusedVariables false
set_option linter.unusedSimpArgs false
set_option maxRecDepth 100000

theorem ofB_r0 (n : Nat) (E : Nat → El) (c0 : decide ((256 : Int) < (↑n : Int)) = true) : PieceN 2 (Ex.ret) [(0, .slc true false ⟨false, 0, 0, 0⟩ n), (2, .nilp), (3, .ptr ⟨false, 1, 0, 0⟩)] [(0, .cells false 8 n (.fn fun j => elR (E j))), (1, .cells true 2 1 (.fn fun j => bif Nat.beq j 0 then [.int false .i64 3, .int false .i64 (-1 : Int)] else [.int false .i64 0, .int false .i64 0]))] (piececallE Try.f8 ((nav [1,0] (bodyOf Try.f8))) (frL [(0, .slc true false ⟨false, 0, 0, 0⟩ n), (3, .ptr ⟨false, 1, 0, 0⟩)]) (hpL [(0, .cells false 8 n (.fn fun j => elR (E j))), (1, .cells true 2 1 (.fn fun _ => [.int false .i64 (0), .int false .i64 (0)]))]) 2 [true]) := eqn (by kernel_rfl) (ai trivial c0)
theorem ofB_r1 (n : Nat) (E : Nat → El) (c0 : decide ((256 : Int) < (↑n : Int)) = false) : PieceN 2 (Ex.normal) [(0, .slc true false ⟨false, 0, 0, 0⟩ n), (3, .ptr ⟨false, 1, 0, 0⟩)] [(0, .cells false 8 n (.fn fun j => elR (E j))), (1, .cells true 2 1 (.fn fun x => [.int false .i64 0, .int false .i64 0]))] (piececallE Try.f8 ((nav [1,0] (bodyOf Try.f8))) (frL [(0, .slc true false ⟨false, 0, 0, 0⟩ n), (3, .ptr ⟨false, 1, 0, 0⟩)]) (hpL [(0, .cells false 8 n (.fn fun j => elR (E j))), (1, .cells true 2 1 (.fn fun _ => [.int false .i64 (0), .int false .i64 (0)]))]) 2 [false]) := eqn (by kernel_rfl) (ai trivial c0)
theorem ofB (B : Nat) (hB : B ≤ 2) (z : El) (n m q r i : Nat) (E : Nat → El) (M1 M2 M3 : List (Tx × Int)) (nd br : Nat → Tx) (t : Bool) : GoesB Try.prog ((nav [1,0] (bodyOf Try.f8))) Try.f8.ntmps B 2 2 (frL [(0, .slc true false ⟨false, 0, 0, 0⟩ n), (3, .ptr ⟨false, 1, 0, 0⟩)]) (hpL [(0, .cells false 8 n (.fn fun j => elR (E j))), (1, .cells true 2 1 (.fn fun _ => [.int false .i64 (0), .int false .i64 (0)]))]) fun e fr' H' => (cond (decide ((256 : Int) < (↑n : Int))) (e = .ret ∧ fr' = frL [(0, .slc true false ⟨false, 0, 0, 0⟩ n), (2, .nilp), (3, .ptr ⟨false, 1, 0, 0⟩)] ∧ H' = hpL [(0, .cells false 8 n (.fn fun j => elR (E j))), (1, .cells true 2 1 (.fn fun j => bif Nat.beq j 0 then [.int false .i64 3, .int false .i64 (-1 : Int)] else [.int false .i64 0, .int false .i64 0]))]) (e = .normal ∧ fr' = frL [(0, .slc true false ⟨false, 0, 0, 0⟩ n), (3, .ptr ⟨false, 1, 0, 0⟩)] ∧ H' = hpL [(0, .cells false 8 n (.fn fun j => elR (E j))), (1, .cells true 2 1 (.fn fun x => [.int false .i64 0, .int false .i64 0]))])) := by
 cases t0 : decide ((256 : Int) < (↑n : Int)) with
 | true =>
  exact (rcE (ofB_r0 n E t0) hB).mono fun e fr' H' h => by first | (simp only [t0, cond_true, cond_false]; exact h) | (simp only [t0, cond_true, cond_false] at h ⊢; exact h)
 | false =>
  exact (rcE (ofB_r1 n E t0) hB).mono fun e fr' H' h => by first | (simp only [t0, cond_true, cond_false]; exact h) | (simp only [t0, cond_true, cond_false] at h ⊢; exact h)
theorem ofC_r0 (n : Nat) (E : Nat → El) : PieceN 6 (Ex.normal) [(0, .slc true false ⟨false, 0, 0, 0⟩ n), (3, .ptr ⟨false, 1, 0, 0⟩), (4, .ptr ⟨false, 5, 0, 0⟩)] [(0, .cells false 8 n (.fn fun j => elR (E j))), (1, .cells true 2 1 (.fn fun x => [.int false .i64 0, .int false .i64 0])), (2, .mSI false []), (3, .mSI false []), (4, .mSI false []), (5, .cells true 7 1 (.lit [] (.n .e (some [.bool true, .nils, AV.mp (2 : Nat), .nils, AV.mp (3 : Nat), .nils, AV.mp (4 : Nat)]) .e)))] (piececallE Try.f8 ((nav [1,1,0] (bodyOf Try.f8))) (frL [(0, .slc true false ⟨false, 0, 0, 0⟩ n), (3, .ptr ⟨false, 1, 0, 0⟩)]) (hpL [(0, .cells false 8 n (.fn fun j => elR (E j))), (1, .cells true 2 1 (.fn fun _ => [.int false .i64 (0), .int false .i64 (0)]))]) 2 []) := eqn (by kernel_rfl) trivial
theorem ofC (B : Nat) (hB : B ≤ 2) (z : El) (n m q r i : Nat) (E : Nat → El) (M1 M2 M3 : List (Tx × Int)) (nd br : Nat → Tx) (t : Bool) : GoesB Try.prog ((nav [1,1,0] (bodyOf Try.f8))) Try.f8.ntmps B 2 6 (frL [(0, .slc true false ⟨false, 0, 0, 0⟩ n), (3, .ptr ⟨false, 1, 0, 0⟩)]) (hpL [(0, .cells false 8 n (.fn fun j => elR (E j))), (1, .cells true 2 1 (.fn fun _ => [.int false .i64 (0), .int false .i64 (0)]))]) fun e fr' H' => (e = .normal ∧ fr' = frL [(0, .slc true false ⟨false, 0, 0, 0⟩ n), (3, .ptr ⟨false, 1, 0, 0⟩), (4, .ptr ⟨false, 5, 0, 0⟩)] ∧ H' = hpL [(0, .cells false 8 n (.fn fun j => elR (E j))), (1, .cells true 2 1 (.fn fun x => [.int false .i64 0, .int false .i64 0])), (2, .mSI false []), (3, .mSI false []), (4, .mSI false []), (5, .cells true 7 1 (.lit [] (.n .e (some [.bool true, .nils, AV.mp (2 : Nat), .nils, AV.mp (3 : Nat), .nils, AV.mp (4 : Nat)]) .e)))]) := by
 exact (rcE (ofC_r0 n E) hB).mono fun e fr' H' h => h
theorem ofD_r0 (n m q r : Nat) (E : Nat → El) (M1 M2 M3 : List (Tx × Int)) (nd br : Nat → Tx) : PieceN 9 (Ex.normal) [(3, .ptr ⟨false, 1, 0, 0⟩), (4, .ptr ⟨false, 2, 0, 0⟩), (19, .slc true false ⟨false, 0, 0, 0⟩ n), (20, .int true .i64 (↑n : Int)), (21, .int false .i64 0)] [(0, .cells false 8 n (.fn fun j => elR (E j))), (1, .cells true 2 1 (.fn fun x => [.int false .i64 0, .int false .i64 0])), (2, .cells true 7 1 (.fn fun _ => netR 6 7 8 m q r)), (3, .mSI true M1), (4, .mSI true M2), (5, .mSI true M3), (6, .cells true 8 m (.fn fun j => elR (E j))), (7, .cells true 1 q (.fn (txR nd))), (8, .cells true 1 r (.fn (txR br)))] (piececallE Try.f8 ((nav [1,1,1,0,0] (bodyOf Try.f8))) (frL [(0, .slc true false ⟨false, 0, 0, 0⟩ n), (3, .ptr ⟨false, 1, 0, 0⟩), (4, .ptr ⟨false, 2, 0, 0⟩)]) (hpL (hoL n m q r E M1 M2 M3 nd br)) 9 []) := eqn (by kernel_rfl) trivial
theorem ofD (B : Nat) (hB : B ≤ 9) (z : El) (n m q r i : Nat) (E : Nat → El) (M1 M2 M3 : List (Tx × Int)) (nd br : Nat → Tx) (t : Bool) : GoesB Try.prog ((nav [1,1,1,0,0] (bodyOf Try.f8))) Try.f8.ntmps B 9 9 (frL [(0, .slc true false ⟨false, 0, 0, 0⟩ n), (3, .ptr ⟨false, 1, 0, 0⟩), (4, .ptr ⟨false, 2, 0, 0⟩)]) (hpL (hoL n m q r E M1 M2 M3 nd br)) fun e fr' H' => (e = .normal ∧ fr' = frL [(3, .ptr ⟨false, 1, 0, 0⟩), (4, .ptr ⟨false, 2, 0, 0⟩), (19, .slc true false ⟨false, 0, 0, 0⟩ n), (20, .int true .i64 (↑n : Int)), (21, .int false .i64 0)] ∧ H' = hpL [(0, .cells false 8 n (.fn fun j => elR (E j))), (1, .cells true 2 1 (.fn fun x => [.int false .i64 0, .int false .i64 0])), (2, .cells true 7 1 (.fn fun _ => netR 6 7 8 m q r)), (3, .mSI true M1), (4, .mSI true M2), (5, .mSI true M3), (6, .cells true 8 m (.fn fun j => elR (E j))), (7, .cells true 1 q (.fn (txR nd))), (8, .cells true 1 r (.fn (txR br)))]) := by
 exact (rcE (ofD_r0 n m q r E M1 M2 M3 nd br) hB).mono fun e fr' H' h => h
theorem oeA_r0 (n m q r i : Nat) (E : Nat → El) (M1 M2 M3 : List (Tx × Int)) (nd br : Nat → Tx) : PieceN 9 (Ex.normal) [(3, .ptr ⟨false, 1, 0, 0⟩), (4, .ptr ⟨false, 2, 0, 0⟩), (19, .slc true false ⟨false, 0, 0, 0⟩ n), (20, .int true .i64 (↑n : Int)), (21, .int true .i64 (↑i : Int)), (22, .sbool (decide ((↑i : Int) < (↑n : Int))))] [(0, .cells false 8 n (.fn fun j => elR (E j))), (1, .cells true 2 1 (.fn fun x => [.int false .i64 0, .int false .i64 0])), (2, .cells true 7 1 (.fn fun _ => netR 6 7 8 m q r)), (3, .mSI true M1), (4, .mSI true M2), (5, .mSI true M3), (6, .cells true 8 m (.fn fun j => elR (E j))), (7, .cells true 1 q (.fn (txR nd))), (8, .cells true 1 r (.fn (txR br)))] (piececallE Try.f8 ((nav [1,1,1,0,1,0,0,0] (bodyOf Try.f8))) (frL [(3, .ptr ⟨false, 1, 0, 0⟩), (4, .ptr ⟨false, 2, 0, 0⟩), (19, .slc true false ⟨false, 0, 0, 0⟩ n), (20, .int true .i64 n), (21, .int true .i64 (i : Int))]) (hpL (hoL n m q r E M1 M2 M3 nd br)) 9 []) := eqn (by kernel_rfl) trivial
theorem oeA (B : Nat) (hB : B ≤ 9) (z : El) (n m q r i : Nat) (E : Nat → El) (M1 M2 M3 : List (Tx × Int)) (nd br : Nat → Tx) (t : Bool) : GoesB Try.prog ((nav [1,1,1,0,1,0,0,0] (bodyOf Try.f8))) Try.f8.ntmps B 9 9 (frL [(3, .ptr ⟨false, 1, 0, 0⟩), (4, .ptr ⟨false, 2, 0, 0⟩), (19, .slc true false ⟨false, 0, 0, 0⟩ n), (20, .int true .i64 n), (21, .int true .i64 (i : Int))]) (hpL (hoL n m q r E M1 M2 M3 nd br)) fun e fr' H' => (e = .normal ∧ fr' = frL [(3, .ptr ⟨false, 1, 0, 0⟩), (4, .ptr ⟨false, 2, 0, 0⟩), (19, .slc true false ⟨false, 0, 0, 0⟩ n), (20, .int true .i64 (↑n : Int)), (21, .int true .i64 (↑i : Int)), (22, .sbool (decide ((↑i : Int) < (↑n : Int))))] ∧ H' = hpL [(0, .cells false 8 n (.fn fun j => elR (E j))), (1, .cells true 2 1 (.fn fun x => [.int false .i64 0, .int false .i64 0])), (2, .cells true 7 1 (.fn fun _ => netR 6 7 8 m q r)), (3, .mSI true M1), (4, .mSI true M2), (5, .mSI true M3), (6, .cells true 8 m (.fn fun j => elR (E j))), (7, .cells true 1 q (.fn (txR nd))), (8, .cells true 1 r (.fn (txR br)))]) := by
 exact (rcE (oeA_r0 n m q r i E M1 M2 M3 nd br) hB).mono fun e fr' H' h => h
theorem oeB_r0 (n m q r i : Nat) (E : Nat → El) (M1 M2 M3 : List (Tx × Int)) (nd br : Nat → Tx) (t : Bool) (c0 : t = true) : PieceN 9 (Ex.normal) [(3, .ptr ⟨false, 1, 0, 0⟩), (4, .ptr ⟨false, 2, 0, 0⟩), (19, .slc true false ⟨false, 0, 0, 0⟩ n), (20, .int true .i64 (↑n : Int)), (21, .int true .i64 (↑i : Int))] [(0, .cells false 8 n (.fn fun j => elR (E j))), (1, .cells true 2 1 (.fn fun x => [.int false .i64 0, .int false .i64 0])), (2, .cells true 7 1 (.fn fun _ => netR 6 7 8 m q r)), (3, .mSI true M1), (4, .mSI true M2), (5, .mSI true M3), (6, .cells true 8 m (.fn fun j => elR (E j))), (7, .cells true 1 q (.fn (txR nd))), (8, .cells true 1 r (.fn (txR br)))] (piececallE Try.f8 ((nav [1,1,1,0,1,0,0,1,0] (bodyOf Try.f8))) (frL [(3, .ptr ⟨false, 1, 0, 0⟩), (4, .ptr ⟨false, 2, 0, 0⟩), (19, .slc true false ⟨false, 0, 0, 0⟩ n), (20, .int true .i64 n), (21, .int true .i64 (i : Int)), (22, .sbool t)]) (hpL (hoL n m q r E M1 M2 M3 nd br)) 9 [true]) := eqn (by kernel_rfl) (ai trivial c0)
theorem oeB_r1 (n m q r i : Nat) (E : Nat → El) (M1 M2 M3 : List (Tx × Int)) (nd br : Nat → Tx) (t : Bool) (c0 : t = false) : PieceN 9 (Ex.exit (0 : Nat)) [(3, .ptr ⟨false, 1, 0, 0⟩), (4, .ptr ⟨false, 2, 0, 0⟩), (19, .slc true false ⟨false, 0, 0, 0⟩ n), (20, .int true .i64 (↑n : Int)), (21, .int true .i64 (↑i : Int))] [(0, .cells false 8 n (.fn fun j => elR (E j))), (1, .cells true 2 1 (.fn fun x => [.int false .i64 0, .int false .i64 0])), (2, .cells true 7 1 (.fn fun _ => netR 6 7 8 m q r)), (3, .mSI true M1), (4, .mSI true M2), (5, .mSI true M3), (6, .cells true 8 m (.fn fun j => elR (E j))), (7, .cells true 1 q (.fn (txR nd))), (8, .cells true 1 r (.fn (txR br)))] (piececallE Try.f8 ((nav [1,1,1,0,1,0,0,1,0] (bodyOf Try.f8))) (frL [(3, .ptr ⟨false, 1, 0, 0⟩), (4, .ptr ⟨false, 2, 0, 0⟩), (19, .slc true false ⟨false, 0, 0, 0⟩ n), (20, .int true .i64 n), (21, .int true .i64 (i : Int)), (22, .sbool t)]) (hpL (hoL n m q r E M1 M2 M3 nd br)) 9 [false]) := eqn (by kernel_rfl) (ai trivial c0)
theorem oeB (B : Nat) (hB : B ≤ 9) (z : El) (n m q r i : Nat) (E : Nat → El) (M1 M2 M3 : List (Tx × Int)) (nd br : Nat → Tx) (t : Bool) : GoesB Try.prog ((nav [1,1,1,0,1,0,0,1,0] (bodyOf Try.f8))) Try.f8.ntmps B 9 9 (frL [(3, .ptr ⟨false, 1, 0, 0⟩), (4, .ptr ⟨false, 2, 0, 0⟩), (19, .slc true false ⟨false, 0, 0, 0⟩ n), (20, .int true .i64 n), (21, .int true .i64 (i : Int)), (22, .sbool t)]) (hpL (hoL n m q r E M1 M2 M3 nd br)) fun e fr' H' => (cond (t) (e = .normal ∧ fr' = frL [(3, .ptr ⟨false, 1, 0, 0⟩), (4, .ptr ⟨false, 2, 0, 0⟩), (19, .slc true false ⟨false, 0, 0, 0⟩ n), (20, .int true .i64 (↑n : Int)), (21, .int true .i64 (↑i : Int))] ∧ H' = hpL [(0, .cells false 8 n (.fn fun j => elR (E j))), (1, .cells true 2 1 (.fn fun x => [.int false .i64 0, .int false .i64 0])), (2, .cells true 7 1 (.fn fun _ => netR 6 7 8 m q r)), (3, .mSI true M1), (4, .mSI true M2), (5, .mSI true M3), (6, .cells true 8 m (.fn fun j => elR (E j))), (7, .cells true 1 q (.fn (txR nd))), (8, .cells true 1 r (.fn (txR br)))]) (e = .exit 0 ∧ fr' = frL [(3, .ptr ⟨false, 1, 0, 0⟩), (4, .ptr ⟨false, 2, 0, 0⟩), (19, .slc true false ⟨false, 0, 0, 0⟩ n), (20, .int true .i64 (↑n : Int)), (21, .int true .i64 (↑i : Int))] ∧ H' = hpL [(0, .cells false 8 n (.fn fun j => elR (E j))), (1, .cells true 2 1 (.fn fun x => [.int false .i64 0, .int false .i64 0])), (2, .cells true 7 1 (.fn fun _ => netR 6 7 8 m q r)), (3, .mSI true M1), (4, .mSI true M2), (5, .mSI true M3), (6, .cells true 8 m (.fn fun j => elR (E j))), (7, .cells true 1 q (.fn (txR nd))), (8, .cells true 1 r (.fn (txR br)))])) := by
 rcases Bool.eq_false_or_eq_true (t) with t0 | t0
 ·
  exact (rcE (oeB_r0 n m q r i E M1 M2 M3 nd br t t0) hB).mono fun e fr' H' h => by first | (simp only [t0, cond_true, cond_false]; exact h) | (simp only [t0, cond_true, cond_false] at h ⊢; exact h)
 ·
  exact (rcE (oeB_r1 n m q r i E M1 M2 M3 nd br t t0) hB).mono fun e fr' H' h => by first | (simp only [t0, cond_true, cond_false]; exact h) | (simp only [t0, cond_true, cond_false] at h ⊢; exact h)
theorem oeC_r0 (n m q r i : Nat) (E : Nat → El) (M1 M2 M3 : List (Tx × Int)) (nd br : Nat → Tx) (c0 : (0 : Int) ≤ (↑i : Int)) (c1 : (↑i : Int) < (↑n : Int)) (c2 : (0 : Nat) + i < n) (c3 : (8 : Nat) ≤ (8 : Nat)) : PieceN 10 (Ex.normal) [(3, .ptr ⟨false, 1, 0, 0⟩), (4, .ptr ⟨false, 2, 0, 0⟩), (5, .int true .i64 (↑i : Int)), (6, .ptr ⟨false, 9, 0, 0⟩), (19, .slc true false ⟨false, 0, 0, 0⟩ n), (20, .int true .i64 (↑n : Int)), (21, .int true .i64 (↑i : Int))] [(0, .cells false 8 n (.fn fun j => elR (E j))), (1, .cells true 2 1 (.fn fun x => [.int false .i64 0, .int false .i64 0])), (2, .cells true 7 1 (.fn fun _ => netR 6 7 8 m q r)), (3, .mSI true M1), (4, .mSI true M2), (5, .mSI true M3), (6, .cells true 8 m (.fn fun j => elR (E j))), (7, .cells true 1 q (.fn (txR nd))), (8, .cells true 1 r (.fn (txR br))), (9, .cells true 8 1 (.lit [] (T.n T.e (Option.some (elR (E ((0 : Nat) + i)))) T.e)))] (piececallE Try.f8 ((nav [1,1,1,0,1,0,0,1,1,0,0,0] (bodyOf Try.f8))) (frL [(3, .ptr ⟨false, 1, 0, 0⟩), (4, .ptr ⟨false, 2, 0, 0⟩), (19, .slc true false ⟨false, 0, 0, 0⟩ n), (20, .int true .i64 n), (21, .int true .i64 (i : Int))]) (hpL (hoL n m q r E M1 M2 M3 nd br)) 9 []) := eqn (by kernel_rfl) (ai (ai (ai trivial (ai c0 c1)) c2) c3)
theorem oeC (B : Nat) (hB : B ≤ 9) (z : El) (n m q r i : Nat) (E : Nat → El) (M1 M2 M3 : List (Tx × Int)) (nd br : Nat → Tx) (t : Bool) (x0 : ((↑i : Int) < (↑n : Int))) (x1 : ((0 : Nat) + i < n)) : GoesB Try.prog ((nav [1,1,1,0,1,0,0,1,1,0,0,0] (bodyOf Try.f8))) Try.f8.ntmps B 9 10 (frL [(3, .ptr ⟨false, 1, 0, 0⟩), (4, .ptr ⟨false, 2, 0, 0⟩), (19, .slc true false ⟨false, 0, 0, 0⟩ n), (20, .int true .i64 n), (21, .int true .i64 (i : Int))]) (hpL (hoL n m q r E M1 M2 M3 nd br)) fun e fr' H' => (e = .normal ∧ fr' = frL [(3, .ptr ⟨false, 1, 0, 0⟩), (4, .ptr ⟨false, 2, 0, 0⟩), (5, .int true .i64 (↑i : Int)), (6, .ptr ⟨false, 9, 0, 0⟩), (19, .slc true false ⟨false, 0, 0, 0⟩ n), (20, .int true .i64 (↑n : Int)), (21, .int true .i64 (↑i : Int))] ∧ H' = hpL [(0, .cells false 8 n (.fn fun j => elR (E j))), (1, .cells true 2 1 (.fn fun x => [.int false .i64 0, .int false .i64 0])), (2, .cells true 7 1 (.fn fun _ => netR 6 7 8 m q r)), (3, .mSI true M1), (4, .mSI true M2), (5, .mSI true M3), (6, .cells true 8 m (.fn fun j => elR (E j))), (7, .cells true 1 q (.fn (txR nd))), (8, .cells true 1 r (.fn (txR br))), (9, .cells true 8 1 (.lit [] (T.n T.e (Option.some (elR (E ((0 : Nat) + i)))) T.e)))]) := by
 exact (rcE (oeC_r0 n m q r i E M1 M2 M3 nd br (by first | decide | omega) (x0) (x1) (by first | decide | omega)) hB).mono fun e fr' H' h => h
theorem oeD_r0 (z : El) (n m q r i : Nat) (E : Nat → El) (M1 M2 M3 : List (Tx × Int)) (nd br : Nat → Tx) (c0 : (!decide (chk_0 (El.k z) (El.n z) (El.a z) (El.b z) (El.c z) (El.d z) (El.v z) (El.ph z) = (0 : Int))) = false) : PieceN 10 (Ex.normal) [(3, .ptr ⟨false, 1, 0, 0⟩), (4, .ptr ⟨false, 2, 0, 0⟩), (5, .int true .i64 (↑i : Int)), (6, .ptr ⟨false, 9, 0, 0⟩), (19, .slc true false ⟨false, 0, 0, 0⟩ n), (20, .int true .i64 (↑n : Int)), (21, .int true .i64 (↑i : Int))] [(0, .cells false 8 n (.fn fun j => elR (E j))), (1, .cells true 2 1 (.fn fun x => [.int false .i64 0, .int false .i64 0])), (2, .cells true 7 1 (.fn fun _ => netR 6 7 8 m q r)), (3, .mSI true M1), (4, .mSI true M2), (5, .mSI true M3), (6, .cells true 8 m (.fn fun j => elR (E j))), (7, .cells true 1 q (.fn (txR nd))), (8, .cells true 1 r (.fn (txR br))), (9, .cells true 8 1 (.fn fun _ => elR z))] (piececallE Try.f8 ((nav [1,1,1,0,1,0,0,1,1,0,0,1,0] (bodyOf Try.f8))) (frL [(3, .ptr ⟨false, 1, 0, 0⟩), (4, .ptr ⟨false, 2, 0, 0⟩), (19, .slc true false ⟨false, 0, 0, 0⟩ n), (20, .int true .i64 n), (21, .int true .i64 (i : Int)), (5, .int true .i64 (i : Int)), (6, .ptr ⟨false, 9, 0, 0⟩)]) (hpL (hoL n m q r E M1 M2 M3 nd br ++ [(9, .cells true 8 1 (.fn fun _ => elR z))])) 10 [false]) := eqn (by kernel_rfl) (ai trivial c0)
theorem oeD_r1 (z : El) (n m q r i : Nat) (E : Nat → El) (M1 M2 M3 : List (Tx × Int)) (nd br : Nat → Tx) (c0 : (!decide (chk_0 (El.k z) (El.n z) (El.a z) (El.b z) (El.c z) (El.d z) (El.v z) (El.ph z) = (0 : Int))) = true) : PieceN 10 (Ex.ret) [(2, .nilp), (3, .ptr ⟨false, 1, 0, 0⟩), (4, .ptr ⟨false, 2, 0, 0⟩), (5, .int true .i64 (↑i : Int)), (6, .ptr ⟨false, 9, 0, 0⟩), (19, .slc true false ⟨false, 0, 0, 0⟩ n), (20, .int true .i64 (↑n : Int)), (21, .int true .i64 (↑i : Int))] [(0, .cells false 8 n (.fn fun j => elR (E j))), (1, .cells true 2 1 (.fn fun j => bif Nat.beq j 0 then [.int true .i64 (chk_0 (El.k z) (El.n z) (El.a z) (El.b z) (El.c z) (El.d z) (El.v z) (El.ph z)), .int true .i64 (↑i : Int)] else [.int false .i64 0, .int false .i64 0])), (2, .cells true 7 1 (.fn fun _ => netR 6 7 8 m q r)), (3, .mSI true M1), (4, .mSI true M2), (5, .mSI true M3), (6, .cells true 8 m (.fn fun j => elR (E j))), (7, .cells true 1 q (.fn (txR nd))), (8, .cells true 1 r (.fn (txR br))), (9, .cells true 8 1 (.fn fun _ => elR z))] (piececallE Try.f8 ((nav [1,1,1,0,1,0,0,1,1,0,0,1,0] (bodyOf Try.f8))) (frL [(3, .ptr ⟨false, 1, 0, 0⟩), (4, .ptr ⟨false, 2, 0, 0⟩), (19, .slc true false ⟨false, 0, 0, 0⟩ n), (20, .int true .i64 n), (21, .int true .i64 (i : Int)), (5, .int true .i64 (i : Int)), (6, .ptr ⟨false, 9, 0, 0⟩)]) (hpL (hoL n m q r E M1 M2 M3 nd br ++ [(9, .cells true 8 1 (.fn fun _ => elR z))])) 10 [true]) := eqn (by kernel_rfl) (ai trivial c0)
theorem oeD (B : Nat) (hB : B ≤ 10) (z : El) (n m q r i : Nat) (E : Nat → El) (M1 M2 M3 : List (Tx × Int)) (nd br : Nat → Tx) (t : Bool) : GoesB Try.prog ((nav [1,1,1,0,1,0,0,1,1,0,0,1,0] (bodyOf Try.f8))) Try.f8.ntmps B 10 10 (frL [(3, .ptr ⟨false, 1, 0, 0⟩), (4, .ptr ⟨false, 2, 0, 0⟩), (19, .slc true false ⟨false, 0, 0, 0⟩ n), (20, .int true .i64 n), (21, .int true .i64 (i : Int)), (5, .int true .i64 (i : Int)), (6, .ptr ⟨false, 9, 0, 0⟩)]) (hpL (hoL n m q r E M1 M2 M3 nd br ++ [(9, .cells true 8 1 (.fn fun _ => elR z))])) fun e fr' H' => (cond (decide (chk_0 (El.k z) (El.n z) (El.a z) (El.b z) (El.c z) (El.d z) (El.v z) (El.ph z) = (0 : Int))) (e = .normal ∧ fr' = frL [(3, .ptr ⟨false, 1, 0, 0⟩), (4, .ptr ⟨false, 2, 0, 0⟩), (5, .int true .i64 (↑i : Int)), (6, .ptr ⟨false, 9, 0, 0⟩), (19, .slc true false ⟨false, 0, 0, 0⟩ n), (20, .int true .i64 (↑n : Int)), (21, .int true .i64 (↑i : Int))] ∧ H' = hpL [(0, .cells false 8 n (.fn fun j => elR (E j))), (1, .cells true 2 1 (.fn fun x => [.int false .i64 0, .int false .i64 0])), (2, .cells true 7 1 (.fn fun _ => netR 6 7 8 m q r)), (3, .mSI true M1), (4, .mSI true M2), (5, .mSI true M3), (6, .cells true 8 m (.fn fun j => elR (E j))), (7, .cells true 1 q (.fn (txR nd))), (8, .cells true 1 r (.fn (txR br))), (9, .cells true 8 1 (.fn fun _ => elR z))]) (e = .ret ∧ fr' = frL [(2, .nilp), (3, .ptr ⟨false, 1, 0, 0⟩), (4, .ptr ⟨false, 2, 0, 0⟩), (5, .int true .i64 (↑i : Int)), (6, .ptr ⟨false, 9, 0, 0⟩), (19, .slc true false ⟨false, 0, 0, 0⟩ n), (20, .int true .i64 (↑n : Int)), (21, .int true .i64 (↑i : Int))] ∧ H' = hpL [(0, .cells false 8 n (.fn fun j => elR (E j))), (1, .cells true 2 1 (.fn fun j => bif Nat.beq j 0 then [.int true .i64 (chk_0 (El.k z) (El.n z) (El.a z) (El.b z) (El.c z) (El.d z) (El.v z) (El.ph z)), .int true .i64 (↑i : Int)] else [.int false .i64 0, .int false .i64 0])), (2, .cells true 7 1 (.fn fun _ => netR 6 7 8 m q r)), (3, .mSI true M1), (4, .mSI true M2), (5, .mSI true M3), (6, .cells true 8 m (.fn fun j => elR (E j))), (7, .cells true 1 q (.fn (txR nd))), (8, .cells true 1 r (.fn (txR br))), (9, .cells true 8 1 (.fn fun _ => elR z))])) := by
 cases t0 : decide (chk_0 (El.k z) (El.n z) (El.a z) (El.b z) (El.c z) (El.d z) (El.v z) (El.ph z) = (0 : Int)) with
 | true =>
  exact (rcE (oeD_r0 z n m q r i E M1 M2 M3 nd br (by rw [t0]; rfl)) hB).mono fun e fr' H' h => by first | (simp only [t0, cond_true, cond_false]; exact h) | (simp only [t0, cond_true, cond_false] at h ⊢; exact h)
 | false =>
  exact (rcE (oeD_r1 z n m q r i E M1 M2 M3 nd br (by rw [t0]; rfl)) hB).mono fun e fr' H' h => by first | (simp only [t0, cond_true, cond_false]; exact h) | (simp only [t0, cond_true, cond_false] at h ⊢; exact h)
theorem oeE_r0 (z : El) (n m q r i : Nat) (E : Nat → El) (M1 M2 M3 : List (Tx × Int)) (nd br : Nat → Tx) (c0 : Option.isSome (lfind seq (El.n z) M1) = true) : PieceN 10 (Ex.ret) [(2, .nilp), (3, .ptr ⟨false, 1, 0, 0⟩), (4, .ptr ⟨false, 2, 0, 0⟩), (5, .int true .i64 (↑i : Int)), (6, .ptr ⟨false, 9, 0, 0⟩), (19, .slc true false ⟨false, 0, 0, 0⟩ n), (20, .int true .i64 (↑n : Int)), (21, .int true .i64 (↑i : Int))] [(0, .cells false 8 n (.fn fun j => elR (E j))), (1, .cells true 2 1 (.fn fun j => bif Nat.beq j 0 then [.int false .i64 9, .int true .i64 (↑i : Int)] else [.int false .i64 0, .int false .i64 0])), (2, .cells true 7 1 (.fn fun _ => netR 6 7 8 m q r)), (3, .mSI true M1), (4, .mSI true M2), (5, .mSI true M3), (6, .cells true 8 m (.fn fun j => elR (E j))), (7, .cells true 1 q (.fn (txR nd))), (8, .cells true 1 r (.fn (txR br))), (9, .cells true 8 1 (.fn fun _ => elR z))] (piececallE Try.f8 ((nav [1,1,1,0,1,0,0,1,1,0,0,1,1,0] (bodyOf Try.f8))) (frL [(3, .ptr ⟨false, 1, 0, 0⟩), (4, .ptr ⟨false, 2, 0, 0⟩), (19, .slc true false ⟨false, 0, 0, 0⟩ n), (20, .int true .i64 n), (21, .int true .i64 (i : Int)), (5, .int true .i64 (i : Int)), (6, .ptr ⟨false, 9, 0, 0⟩)]) (hpL (hoL n m q r E M1 M2 M3 nd br ++ [(9, .cells true 8 1 (.fn fun _ => elR z))])) 10 [true]) := eqn (by kernel_rfl) (ai trivial c0)
theorem oeE_r1 (z : El) (n m q r i : Nat) (E : Nat → El) (M1 M2 M3 : List (Tx × Int)) (nd br : Nat → Tx) (c0 : Option.isSome (lfind seq (El.n z) M1) = false) : PieceN 10 (Ex.normal) [(3, .ptr ⟨false, 1, 0, 0⟩), (4, .ptr ⟨false, 2, 0, 0⟩), (5, .int true .i64 (↑i : Int)), (6, .ptr ⟨false, 9, 0, 0⟩), (19, .slc true false ⟨false, 0, 0, 0⟩ n), (20, .int true .i64 (↑n : Int)), (21, .int true .i64 (↑i : Int))] [(0, .cells false 8 n (.fn fun j => elR (E j))), (1, .cells true 2 1 (.fn fun x => [.int false .i64 0, .int false .i64 0])), (2, .cells true 7 1 (.fn fun _ => netR 6 7 8 m q r)), (3, .mSI true M1), (4, .mSI true M2), (5, .mSI true M3), (6, .cells true 8 m (.fn fun j => elR (E j))), (7, .cells true 1 q (.fn (txR nd))), (8, .cells true 1 r (.fn (txR br))), (9, .cells true 8 1 (.fn fun _ => elR z))] (piececallE Try.f8 ((nav [1,1,1,0,1,0,0,1,1,0,0,1,1,0] (bodyOf Try.f8))) (frL [(3, .ptr ⟨false, 1, 0, 0⟩), (4, .ptr ⟨false, 2, 0, 0⟩), (19, .slc true false ⟨false, 0, 0, 0⟩ n), (20, .int true .i64 n), (21, .int true .i64 (i : Int)), (5, .int true .i64 (i : Int)), (6, .ptr ⟨false, 9, 0, 0⟩)]) (hpL (hoL n m q r E M1 M2 M3 nd br ++ [(9, .cells true 8 1 (.fn fun _ => elR z))])) 10 [false]) := eqn (by kernel_rfl) (ai trivial c0)
theorem oeE (B : Nat) (hB : B ≤ 10) (z : El) (n m q r i : Nat) (E : Nat → El) (M1 M2 M3 : List (Tx × Int)) (nd br : Nat → Tx) (t : Bool) : GoesB Try.prog ((nav [1,1,1,0,1,0,0,1,1,0,0,1,1,0] (bodyOf Try.f8))) Try.f8.ntmps B 10 10 (frL [(3, .ptr ⟨false, 1, 0, 0⟩), (4, .ptr ⟨false, 2, 0, 0⟩), (19, .slc true false ⟨false, 0, 0, 0⟩ n), (20, .int true .i64 n), (21, .int true .i64 (i : Int)), (5, .int true .i64 (i : Int)), (6, .ptr ⟨false, 9, 0, 0⟩)]) (hpL (hoL n m q r E M1 M2 M3 nd br ++ [(9, .cells true 8 1 (.fn fun _ => elR z))])) fun e fr' H' => (cond (Option.isSome (lfind seq (El.n z) M1)) (e = .ret ∧ fr' = frL [(2, .nilp), (3, .ptr ⟨false, 1, 0, 0⟩), (4, .ptr ⟨false, 2, 0, 0⟩), (5, .int true .i64 (↑i : Int)), (6, .ptr ⟨false, 9, 0, 0⟩), (19, .slc true false ⟨false, 0, 0, 0⟩ n), (20, .int true .i64 (↑n : Int)), (21, .int true .i64 (↑i : Int))] ∧ H' = hpL [(0, .cells false 8 n (.fn fun j => elR (E j))), (1, .cells true 2 1 (.fn fun j => bif Nat.beq j 0 then [.int false .i64 9, .int true .i64 (↑i : Int)] else [.int false .i64 0, .int false .i64 0])), (2, .cells true 7 1 (.fn fun _ => netR 6 7 8 m q r)), (3, .mSI true M1), (4, .mSI true M2), (5, .mSI true M3), (6, .cells true 8 m (.fn fun j => elR (E j))), (7, .cells true 1 q (.fn (txR nd))), (8, .cells true 1 r (.fn (txR br))), (9, .cells true 8 1 (.fn fun _ => elR z))]) (e = .normal ∧ fr' = frL [(3, .ptr ⟨false, 1, 0, 0⟩), (4, .ptr ⟨false, 2, 0, 0⟩), (5, .int true .i64 (↑i : Int)), (6, .ptr ⟨false, 9, 0, 0⟩), (19, .slc true false ⟨false, 0, 0, 0⟩ n), (20, .int true .i64 (↑n : Int)), (21, .int true .i64 (↑i : Int))] ∧ H' = hpL [(0, .cells false 8 n (.fn fun j => elR (E j))), (1, .cells true 2 1 (.fn fun x => [.int false .i64 0, .int false .i64 0])), (2, .cells true 7 1 (.fn fun _ => netR 6 7 8 m q r)), (3, .mSI true M1), (4, .mSI true M2), (5, .mSI true M3), (6, .cells true 8 m (.fn fun j => elR (E j))), (7, .cells true 1 q (.fn (txR nd))), (8, .cells true 1 r (.fn (txR br))), (9, .cells true 8 1 (.fn fun _ => elR z))])) := by
 cases t0 : Option.isSome (lfind seq (El.n z) M1) with
 | true =>
  exact (rcE (oeE_r0 z n m q r i E M1 M2 M3 nd br t0) hB).mono fun e fr' H' h => by first | (simp only [t0, cond_true, cond_false]; exact h) | (simp only [t0, cond_true, cond_false] at h ⊢; exact h)
 | false =>
  exact (rcE (oeE_r1 z n m q r i E M1 M2 M3 nd br t0) hB).mono fun e fr' H' h => by first | (simp only [t0, cond_true, cond_false]; exact h) | (simp only [t0, cond_true, cond_false] at h ⊢; exact h)
theorem oeG_r0 (n m q r i : Nat) (E : Nat → El) (M1 M2 M3 : List (Tx × Int)) (nd br : Nat → Tx) (c0 : (-9223372036854775808 : Int) ≤ (↑i : Int) + (1 : Int)) (c1 : (↑i : Int) + (1 : Int) ≤ (9223372036854775807 : Int)) : PieceN 12 (Ex.normal) [(3, .ptr ⟨false, 1, 0, 0⟩), (4, .ptr ⟨false, 2, 0, 0⟩), (19, .slc true false ⟨false, 0, 0, 0⟩ n), (20, .int true .i64 (↑n : Int)), (21, .int true .i64 ((↑i : Int) + (1 : Int)))] [(0, .cells false 8 n (.fn fun j => elR (E j))), (1, .cells true 2 1 (.fn fun x => [.int false .i64 0, .int false .i64 0])), (2, .cells true 7 1 (.fn fun _ => netR 6 7 8 m q r)), (3, .mSI true M1), (4, .mSI true M2), (5, .mSI true M3), (6, .cells true 8 m (.fn fun j => elR (E j))), (7, .cells true 1 q (.fn (txR nd))), (8, .cells true 1 r (.fn (txR br)))] (piececallE Try.f8 ((nav [1,1,1,0,1,0,0,1,1,1] (bodyOf Try.f8))) (frL [(3, .ptr ⟨false, 1, 0, 0⟩), (4, .ptr ⟨false, 2, 0, 0⟩), (19, .slc true false ⟨false, 0, 0, 0⟩ n), (20, .int true .i64 n), (21, .int true .i64 (i : Int))]) (hpL (hoL n m q r E M1 M2 M3 nd br)) 12 []) := eqn (by kernel_rfl) (ai trivial (ai c0 c1))
theorem oeG (B : Nat) (hB : B ≤ 12) (z : El) (n m q r i : Nat) (E : Nat → El) (M1 M2 M3 : List (Tx × Int)) (nd br : Nat → Tx) (t : Bool) (x0 : ((↑i : Int) + (1 : Int) ≤ (9223372036854775807 : Int))) : GoesB Try.prog ((nav [1,1,1,0,1,0,0,1,1,1] (bodyOf Try.f8))) Try.f8.ntmps B 12 12 (frL [(3, .ptr ⟨false, 1, 0, 0⟩), (4, .ptr ⟨false, 2, 0, 0⟩), (19, .slc true false ⟨false, 0, 0, 0⟩ n), (20, .int true .i64 n), (21, .int true .i64 (i : Int))]) (hpL (hoL n m q r E M1 M2 M3 nd br)) fun e fr' H' => (e = .normal ∧ fr' = frL [(3, .ptr ⟨false, 1, 0, 0⟩), (4, .ptr ⟨false, 2, 0, 0⟩), (19, .slc true false ⟨false, 0, 0, 0⟩ n), (20, .int true .i64 (↑n : Int)), (21, .int true .i64 ((↑i : Int) + (1 : Int)))] ∧ H' = hpL [(0, .cells false 8 n (.fn fun j => elR (E j))), (1, .cells true 2 1 (.fn fun x => [.int false .i64 0, .int false .i64 0])), (2, .cells true 7 1 (.fn fun _ => netR 6 7 8 m q r)), (3, .mSI true M1), (4, .mSI true M2), (5, .mSI true M3), (6, .cells true 8 m (.fn fun j => elR (E j))), (7, .cells true 1 q (.fn (txR nd))), (8, .cells true 1 r (.fn (txR br)))]) := by
 exact (rcE (oeG_r0 n m q r i E M1 M2 M3 nd br (by first | decide | omega) (x0)) hB).mono fun e fr' H' h => h
theorem ofG_r0 (n m q r : Nat) (E : Nat → El) (M1 M2 M3 : List (Tx × Int)) (nd br : Nat → Tx) (c0 : decide ((32 : Int) < (↑q : Int)) = true) : PieceN 9 (Ex.ret) [(2, .nilp), (3, .ptr ⟨false, 1, 0, 0⟩), (4, .ptr ⟨false, 2, 0, 0⟩)] [(0, .cells false 8 n (.fn fun j => elR (E j))), (1, .cells true 2 1 (.fn fun j => bif Nat.beq j 0 then [.int false .i64 3, .int false .i64 (-1 : Int)] else [.int false .i64 0, .int false .i64 0])), (2, .cells true 7 1 (.fn fun _ => netR 6 7 8 m q r)), (3, .mSI true M1), (4, .mSI true M2), (5, .mSI true M3), (6, .cells true 8 m (.fn fun j => elR (E j))), (7, .cells true 1 q (.fn (txR nd))), (8, .cells true 1 r (.fn (txR br)))] (piececallE Try.f8 ((nav [1,1,1,1,0] (bodyOf Try.f8))) (frL [(3, .ptr ⟨false, 1, 0, 0⟩), (4, .ptr ⟨false, 2, 0, 0⟩)]) (hpL (hoL n m q r E M1 M2 M3 nd br)) 9 [true]) := eqn (by kernel_rfl) (ai trivial c0)
theorem ofG_r1 (n m q r : Nat) (E : Nat → El) (M1 M2 M3 : List (Tx × Int)) (nd br : Nat → Tx) (c0 : decide ((32 : Int) < (↑q : Int)) = false) (c1 : (-9223372036854775808 : Int) ≤ (↑q : Int) + (↑r : Int)) (c2 : (↑q : Int) + (↑r : Int) ≤ (9223372036854775807 : Int)) (c3 : decide ((64 : Int) < (↑q : Int) + (↑r : Int)) = true) : PieceN 9 (Ex.ret) [(2, .nilp), (3, .ptr ⟨false, 1, 0, 0⟩), (4, .ptr ⟨false, 2, 0, 0⟩)] [(0, .cells false 8 n (.fn fun j => elR (E j))), (1, .cells true 2 1 (.fn fun j => bif Nat.beq j 0 then [.int false .i64 3, .int false .i64 (-1 : Int)] else [.int false .i64 0, .int false .i64 0])), (2, .cells true 7 1 (.fn fun _ => netR 6 7 8 m q r)), (3, .mSI true M1), (4, .mSI true M2), (5, .mSI true M3), (6, .cells true 8 m (.fn fun j => elR (E j))), (7, .cells true 1 q (.fn (txR nd))), (8, .cells true 1 r (.fn (txR br)))] (piececallE Try.f8 ((nav [1,1,1,1,0] (bodyOf Try.f8))) (frL [(3, .ptr ⟨false, 1, 0, 0⟩), (4, .ptr ⟨false, 2, 0, 0⟩)]) (hpL (hoL n m q r E M1 M2 M3 nd br)) 9 [false, true]) := eqn (by kernel_rfl) (ai (ai (ai trivial c0) (ai c1 c2)) c3)
theorem ofG_r2 (n m q r : Nat) (E : Nat → El) (M1 M2 M3 : List (Tx × Int)) (nd br : Nat → Tx) (c0 : decide ((32 : Int) < (↑q : Int)) = false) (c1 : (-9223372036854775808 : Int) ≤ (↑q : Int) + (↑r : Int)) (c2 : (↑q : Int) + (↑r : Int) ≤ (9223372036854775807 : Int)) (c3 : decide ((64 : Int) < (↑q : Int) + (↑r : Int)) = false) : PieceN 9 (Ex.normal) [(3, .ptr ⟨false, 1, 0, 0⟩), (4, .ptr ⟨false, 2, 0, 0⟩)] [(0, .cells false 8 n (.fn fun j => elR (E j))), (1, .cells true 2 1 (.fn fun x => [.int false .i64 0, .int false .i64 0])), (2, .cells true 7 1 (.fn fun _ => netR 6 7 8 m q r)), (3, .mSI true M1), (4, .mSI true M2), (5, .mSI true M3), (6, .cells true 8 m (.fn fun j => elR (E j))), (7, .cells true 1 q (.fn (txR nd))), (8, .cells true 1 r (.fn (txR br)))] (piececallE Try.f8 ((nav [1,1,1,1,0] (bodyOf Try.f8))) (frL [(3, .ptr ⟨false, 1, 0, 0⟩), (4, .ptr ⟨false, 2, 0, 0⟩)]) (hpL (hoL n m q r E M1 M2 M3 nd br)) 9 [false, false]) := eqn (by kernel_rfl) (ai (ai (ai trivial c0) (ai c1 c2)) c3)
theorem ofG (B : Nat) (hB : B ≤ 9) (z : El) (n m q r i : Nat) (E : Nat → El) (M1 M2 M3 : List (Tx × Int)) (nd br : Nat → Tx) (t : Bool) (x0 : ((decide ((32 : Int) < (↑q : Int))) = false → ((decide ((64 : Int) < (↑q : Int) + (↑r : Int))) = true → ((↑q : Int) + (↑r : Int) ≤ (9223372036854775807 : Int))))) : GoesB Try.prog ((nav [1,1,1,1,0] (bodyOf Try.f8))) Try.f8.ntmps B 9 9 (frL [(3, .ptr ⟨false, 1, 0, 0⟩), (4, .ptr ⟨false, 2, 0, 0⟩)]) (hpL (hoL n m q r E M1 M2 M3 nd br)) fun e fr' H' => (cond (decide ((32 : Int) < (↑q : Int))) (e = .ret ∧ fr' = frL [(2, .nilp), (3, .ptr ⟨false, 1, 0, 0⟩), (4, .ptr ⟨false, 2, 0, 0⟩)] ∧ H' = hpL [(0, .cells false 8 n (.fn fun j => elR (E j))), (1, .cells true 2 1 (.fn fun j => bif Nat.beq j 0 then [.int false .i64 3, .int false .i64 (-1 : Int)] else [.int false .i64 0, .int false .i64 0])), (2, .cells true 7 1 (.fn fun _ => netR 6 7 8 m q r)), (3, .mSI true M1), (4, .mSI true M2), (5, .mSI true M3), (6, .cells true 8 m (.fn fun j => elR (E j))), (7, .cells true 1 q (.fn (txR nd))), (8, .cells true 1 r (.fn (txR br)))]) (cond (decide ((64 : Int) < (↑q : Int) + (↑r : Int))) (e = .ret ∧ fr' = frL [(2, .nilp), (3, .ptr ⟨false, 1, 0, 0⟩), (4, .ptr ⟨false, 2, 0, 0⟩)] ∧ H' = hpL [(0, .cells false 8 n (.fn fun j => elR (E j))), (1, .cells true 2 1 (.fn fun j => bif Nat.beq j 0 then [.int false .i64 3, .int false .i64 (-1 : Int)] else [.int false .i64 0, .int false .i64 0])), (2, .cells true 7 1 (.fn fun _ => netR 6 7 8 m q r)), (3, .mSI true M1), (4, .mSI true M2), (5, .mSI true M3), (6, .cells true 8 m (.fn fun j => elR (E j))), (7, .cells true 1 q (.fn (txR nd))), (8, .cells true 1 r (.fn (txR br)))]) (e = .normal ∧ fr' = frL [(3, .ptr ⟨false, 1, 0, 0⟩), (4, .ptr ⟨false, 2, 0, 0⟩)] ∧ H' = hpL [(0, .cells false 8 n (.fn fun j => elR (E j))), (1, .cells true 2 1 (.fn fun x => [.int false .i64 0, .int false .i64 0])), (2, .cells true 7 1 (.fn fun _ => netR 6 7 8 m q r)), (3, .mSI true M1), (4, .mSI true M2), (5, .mSI true M3), (6, .cells true 8 m (.fn fun j => elR (E j))), (7, .cells true 1 q (.fn (txR nd))), (8, .cells true 1 r (.fn (txR br)))]))) := by
 cases t0 : decide ((32 : Int) < (↑q : Int)) with
 | true =>
  exact (rcE (ofG_r0 n m q r E M1 M2 M3 nd br t0) hB).mono fun e fr' H' h => by first | (simp only [t0, cond_true, cond_false]; exact h) | (simp only [t0, cond_true, cond_false] at h ⊢; exact h)
 | false =>
  cases t1 : decide ((64 : Int) < (↑q : Int) + (↑r : Int)) with
  | true =>
   exact (rcE (ofG_r1 n m q r E M1 M2 M3 nd br t0 (by first | decide | ((try simp only [decide_eq_true_eq, decide_eq_false_iff_not] at t0 t1); (try simp only [List.length_take, List.length_drop]); omega)) (x0 t0 t1) t1) hB).mono fun e fr' H' h => by first | (simp only [t0, t1, cond_true, cond_false]; exact h) | (simp only [t0, t1, cond_true, cond_false] at h ⊢; exact h)
  | false =>
   exact (rcE (ofG_r2 n m q r E M1 M2 M3 nd br t0 (by first | decide | ((try simp only [decide_eq_true_eq, decide_eq_false_iff_not] at t0 t1); (try simp only [List.length_take, List.length_drop]); omega)) (by first | decide | ((try simp only [decide_eq_true_eq, decide_eq_false_iff_not] at t0 t1); (try simp only [List.length_take, List.length_drop]); omega)) t1) hB).mono fun e fr' H' h => by first | (simp only [t0, t1, cond_true, cond_false]; exact h) | (simp only [t0, t1, cond_true, cond_false] at h ⊢; exact h)
theorem ofH_r0 (n m q r : Nat) (E : Nat → El) (M1 M2 M3 : List (Tx × Int)) (nd br : Nat → Tx) : PieceN 9 (Ex.ret) [(2, .ptr ⟨false, 2, 0, 0⟩), (3, .ptr ⟨false, 1, 0, 0⟩)] [(0, .cells false 8 n (.fn fun j => elR (E j))), (1, .cells true 2 1 (.fn fun j => bif Nat.beq j 0 then [.int false .i64 0, .int false .i64 0] else [.int false .i64 0, .int false .i64 0])), (2, .cells true 7 1 (.fn fun _ => netR 6 7 8 m q r)), (3, .mSI true M1), (4, .mSI true M2), (5, .mSI true M3), (6, .cells true 8 m (.fn fun j => elR (E j))), (7, .cells true 1 q (.fn (txR nd))), (8, .cells true 1 r (.fn (txR br)))] (piececallE Try.f8 ((nav [1,1,1,1,1] (bodyOf Try.f8))) (frL [(3, .ptr ⟨false, 1, 0, 0⟩), (4, .ptr ⟨false, 2, 0, 0⟩)]) (hpL (hoL n m q r E M1 M2 M3 nd br)) 9 []) := eqn (by kernel_rfl) trivial
theorem ofH (B : Nat) (hB : B ≤ 9) (z : El) (n m q r i : Nat) (E : Nat → El) (M1 M2 M3 : List (Tx × Int)) (nd br : Nat → Tx) (t : Bool) : GoesB Try.prog ((nav [1,1,1,1,1] (bodyOf Try.f8))) Try.f8.ntmps B 9 9 (frL [(3, .ptr ⟨false, 1, 0, 0⟩), (4, .ptr ⟨false, 2, 0, 0⟩)]) (hpL (hoL n m q r E M1 M2 M3 nd br)) fun e fr' H' => (e = .ret ∧ fr' = frL [(2, .ptr ⟨false, 2, 0, 0⟩), (3, .ptr ⟨false, 1, 0, 0⟩)] ∧ H' = hpL [(0, .cells false 8 n (.fn fun j => elR (E j))), (1, .cells true 2 1 (.fn fun j => bif Nat.beq j 0 then [.int false .i64 0, .int false .i64 0] else [.int false .i64 0, .int false .i64 0])), (2, .cells true 7 1 (.fn fun _ => netR 6 7 8 m q r)), (3, .mSI true M1), (4, .mSI true M2), (5, .mSI true M3), (6, .cells true 8 m (.fn fun j => elR (E j))), (7, .cells true 1 q (.fn (txR nd))), (8, .cells true 1 r (.fn (txR br)))]) := by
 exact (rcE (ofH_r0 n m q r E M1 M2 M3 nd br) hB).mono fun e fr' H' h => h


theorem ofP_r0 (z : El) (n m q r i : Nat) (E : Nat → El) (M1 M2 M3 : List (Tx × Int)) (nd br : Nat → Tx) : PieceN 10 (Ex.normal) [(3, .ptr ⟨false, 1, 0, 0⟩), (4, .ptr ⟨false, 2, 0, 0⟩), (19, .slc true false ⟨false, 0, 0, 0⟩ n), (20, .int true .i64 (↑n : Int)), (21, .int true .i64 (↑i : Int)), (46, .ptr ⟨false, 2, 0, 0⟩), (47, .agg (elR z))] [(0, .cells false 8 n (.fn fun j => (elR (E j)))), (1, .cells true 2 1 (.fn fun x => [.int false .i64 0, .int false .i64 0])), (2, .cells true 7 1 (.fn fun x => (netR 6 7 8 m q r))), (3, ABk.mSI true M1), (4, ABk.mSI true M2), (5, ABk.mSI true M3), (6, .cells true 8 m (.fn fun j => (elR (E j)))), (7, .cells true 1 q (.fn (txR nd))), (8, .cells true 1 r (.fn (txR br)))] (piececallE Try.f8 (regPre 2 (nav [1,1,1,0,1,0,0,1,1,0,0,1,1,1] (bodyOf Try.f8))) (frL [(3, .ptr ⟨false, 1, 0, 0⟩), (4, .ptr ⟨false, 2, 0, 0⟩), (19, .slc true false ⟨false, 0, 0, 0⟩ n), (20, .int true .i64 n), (21, .int true .i64 (i : Int)), (5, .int true .i64 (i : Int)), (6, .ptr ⟨false, 9, 0, 0⟩)]) (hpL [(0, .cells false 8 n (.fn fun j => elR (E j))), (1, .cells true 2 1 (.fn fun _ => [.int false .i64 (0), .int false .i64 (0)])), (2, .cells true 7 1 (.fn fun _ => netR 6 7 8 m q r)), (3, .mSI true M1), (4, .mSI true M2), (5, .mSI true M3), (6, .cells true 8 (m) (.fn fun j => elR (E j))), (7, .cells true 1 (q) (.fn (txR nd))), (8, .cells true 1 (r) (.fn (txR br))), (9, .cells true 8 1 (.fn fun _ => elR z))]) 10 []) := eqn (by kernel_rfl) trivial
theorem ofQ_r0 (n m q r i : Nat) (E : Nat → El) (M1 M2 M3 : List (Tx × Int)) (nd br : Nat → Tx) : PieceN 12 (Ex.normal) [(3, .ptr ⟨false, 1, 0, 0⟩), (4, .ptr ⟨false, 2, 0, 0⟩), (19, .slc true false ⟨false, 0, 0, 0⟩ n), (20, .int true .i64 (↑n : Int)), (21, .int true .i64 (↑i : Int))] [(0, .cells false 8 n (.fn fun j => (elR (E j)))), (1, .cells true 2 1 (.fn fun x => [.int false .i64 0, .int false .i64 0])), (2, .cells true 7 1 (.fn fun x => (netR 6 7 8 m q r))), (3, ABk.mSI true M1), (4, ABk.mSI true M2), (5, ABk.mSI true M3), (6, .cells true 8 m (.fn fun j => (elR (E j)))), (7, .cells true 1 q (.fn (txR nd))), (8, .cells true 1 r (.fn (txR br)))] (piececallE Try.f8 (regPost 3 (nav [1,1,1,0,1,0,0,1,1,0,0,1,1,1] (bodyOf Try.f8))) ((frL [(3, .ptr ⟨false, 1, 0, 0⟩), (4, .ptr ⟨false, 2, 0, 0⟩), (19, .slc true false ⟨false, 0, 0, 0⟩ n), (20, .int true .i64 n), (21, .int true .i64 (i : Int))]).upd 48 (some (.tup []))) (hpL [(0, .cells false 8 n (.fn fun j => elR (E j))), (1, .cells true 2 1 (.fn fun _ => [.int false .i64 (0), .int false .i64 (0)])), (2, .cells true 7 1 (.fn fun _ => netR 6 7 8 m q r)), (3, .mSI true M1), (4, .mSI true M2), (5, .mSI true M3), (6, .cells true 8 (m) (.fn fun j => elR (E j))), (7, .cells true 1 (q) (.fn (txR nd))), (8, .cells true 1 (r) (.fn (txR br)))]) 12 []) := eqn (by kernel_rfl) trivial
noncomputable def chkE (e : El) : Int := chk_0 e.k e.n e.a e.b e.c e.d e.v e.ph
def QF (E : Nat → El) (n : Nat) : Po := fun e fr' H' => e = .ret ∧ (((ofR chkE E n).1 ≠ 0 ∧ ∃ s s' : Bool, fr' = frL [(2, .nilp), (3, .ptr ⟨false, 1, 0, 0⟩)] ∧ H' = hpL [(1, .cells true 2 1 (.fn fun _ => [.int s .i64 (ofR chkE E n).1, .int s' .i64 (ofR chkE E n).2]))]) ∨ ((ofR chkE E n).1 = 0 ∧ fr' = frL [(2, .ptr ⟨false, 2, 0, 0⟩), (3, .ptr ⟨false, 1, 0, 0⟩)] ∧ H' = hpL [(1, .cells true 2 1 (.fn fun _ => [.int false .i64 (0), .int false .i64 (0)])), (2, .cells true 7 1 (.fn fun _ => netR 6 7 8 n (ND E n).length (BR E n).length)), (3, .mSI true (zipF 0 (NM E n))), (4, .mSI true (zipF 0 (ND E n))), (5, .mSI true (zipF 0 (BR E n))), (6, .cells true 8 (n) (.fn fun j => elR (E j))), (7, .cells true 1 ((ND E n).length) (.fn (txR (lget (ND E n))))), (8, .cells true 1 ((BR E n).length) (.fn (txR (lget (BR E n)))))]))
theorem QF_bad {E : Nat → El} {n : Nat} {x y : Int} (s s' : Bool) (h : ofR chkE E n = (x, y)) (h0 : x ≠ 0) : QF E n .ret (frL [(2, .nilp), (3, .ptr ⟨false, 1, 0, 0⟩)]) (hpL [(1, .cells true 2 1 (.fn fun _ => [.int s .i64 x, .int s' .i64 y]))]) :=
 ⟨rfl, .inl ⟨by rw [h]; exact h0, s, s', rfl, by rw [h]⟩⟩
theorem of_is : (bodyOf Try.f8) = .seq (nav [0] (bodyOf Try.f8)) (.seq (nav [1,0] (bodyOf Try.f8)) (.seq (nav [1,1,0] (bodyOf Try.f8)) (.seq (.seq (nav [1,1,1,0,0] (bodyOf Try.f8)) (.block 0 (.loop (nav [1,1,1,0,1,0,0] (bodyOf Try.f8))))) (.seq (nav [1,1,1,1,0] (bodyOf Try.f8)) (nav [1,1,1,1,1] (bodyOf Try.f8)))))) := by kernel_rfl
theorem of_body : (nav [1,1,1,0,1,0,0] (bodyOf Try.f8)) = .seq (nav [1,1,1,0,1,0,0,0] (bodyOf Try.f8)) (.seq (nav [1,1,1,0,1,0,0,1,0] (bodyOf Try.f8)) (.seq (.block 1 (.seq (nav [1,1,1,0,1,0,0,1,1,0,0,0] (bodyOf Try.f8)) (.seq (nav [1,1,1,0,1,0,0,1,1,0,0,1,0] (bodyOf Try.f8)) (.seq (nav [1,1,1,0,1,0,0,1,1,0,0,1,1,0] (bodyOf Try.f8)) (nav [1,1,1,0,1,0,0,1,1,0,0,1,1,1] (bodyOf Try.f8)))))) (nav [1,1,1,0,1,0,0,1,1,1] (bodyOf Try.f8)))) := by kernel_rfl
def clO : Call := ⟨.value (.func 34), #[.tmp 46, .tmp 47], #[28, 44]⟩
noncomputable def opO : Oper := ((regOps (nav [1,1,1,0,1,0,0,1,1,0,0,1,1,1] (bodyOf Try.f8))).drop 2).headD ⟨none, .move (.tmp 0), 0, "", #[], none⟩
theorem ND_b (E : Nat → El) (i : Nat) (h : i ≤ 256) : (ND E i).length ≤ 1024 := by have := ND_len E i; omega
theorem BR_b (E : Nat → El) (i : Nat) (h : i ≤ 256) : (BR E i).length ≤ 256 := by have := BR_len E i; omega
theorem oe_put (n i : Nat) (E : Nat → El) (hi : i < n) (hn : n ≤ 256) (hp : pos (E i).n (NM E i) = none) :
  GoesB Try.prog (nav [1,1,1,0,1,0,0,1,1,0,0,1,1,1] (bodyOf Try.f8)) Try.f8.ntmps 1 10 12 (frL [(3, .ptr ⟨false, 1, 0, 0⟩), (4, .ptr ⟨false, 2, 0, 0⟩), (19, .slc true false ⟨false, 0, 0, 0⟩ n), (20, .int true .i64 n), (21, .int true .i64 (i : Int)), (5, .int true .i64 (i : Int)), (6, .ptr ⟨false, 9, 0, 0⟩)]) (hpL [(0, .cells false 8 n (.fn fun j => elR (E j))), (1, .cells true 2 1 (.fn fun _ => [.int false .i64 (0), .int false .i64 (0)])), (2, .cells true 7 1 (.fn fun _ => netR 6 7 8 i (ND E i).length (BR E i).length)), (3, .mSI true (zipF 0 (NM E i))), (4, .mSI true (zipF 0 (ND E i))), (5, .mSI true (zipF 0 (BR E i))), (6, .cells true 8 (i) (.fn fun j => elR (E j))), (7, .cells true 1 ((ND E i).length) (.fn (txR (lget (ND E i))))), (8, .cells true 1 ((BR E i).length) (.fn (txR (lget (BR E i))))), (9, .cells true 8 1 (.fn fun _ => elR (E i)))]) (Nm [(3, .ptr ⟨false, 1, 0, 0⟩), (4, .ptr ⟨false, 2, 0, 0⟩), (19, .slc true false ⟨false, 0, 0, 0⟩ n), (20, .int true .i64 n), (21, .int true .i64 (i : Int))] [(0, .cells false 8 n (.fn fun j => elR (E j))), (1, .cells true 2 1 (.fn fun _ => [.int false .i64 (0), .int false .i64 (0)])), (2, .cells true 7 1 (.fn fun _ => netR 6 7 8 (i + 1) (ND E (i + 1)).length (BR E (i + 1)).length)), (3, .mSI true (zipF 0 (NM E (i + 1)))), (4, .mSI true (zipF 0 (ND E (i + 1)))), (5, .mSI true (zipF 0 (BR E (i + 1)))), (6, .cells true 8 ((i + 1)) (.fn fun j => elR (E j))), (7, .cells true 1 ((ND E (i + 1)).length) (.fn (txR (lget (ND E (i + 1)))))), (8, .cells true 1 ((BR E (i + 1)).length) (.fn (txR (lget (BR E (i + 1))))))]) := by
 refine GoesB.callL (o := opO) (cl := clO) (fop := .func 34) (f := 34) (fn := Try.f34) (body := (bodyOf Try.f34)) (pre := []) (cap := []) (args := [.ptr ⟨false, 2, 0, 0⟩, .agg (elR (E i))]) callE_ok 2 (by kernel_rfl) (by kernel_rfl) (by kernel_rfl) (by kernel_rfl) rfl (d := 48) (by kernel_rfl) (Nat.le_of_ble_eq_true (by kernel_rfl)) (K1 := 10) (K2 := 12) (by omega) (ofP_r0 (E i) n i (ND E i).length (BR E i).length i E (zipF 0 (NM E i)) (zipF 0 (ND E i)) (zipF 0 (BR E i)) (lget (ND E i)) (lget (BR E i))) Try.func34 (by kernel_rfl) (by kernel_rfl) rfl (B0 := 6) (by omega) (by omega) (by omega) [(3, .ptr ⟨false, 1, 0, 0⟩), (4, .ptr ⟨false, 2, 0, 0⟩), (19, .slc true false ⟨false, 0, 0, 0⟩ n), (20, .int true .i64 n), (21, .int true .i64 (i : Int))] rfl ⟨re rfl, re rfl, re rfl, re rfl, re rfl, trivial⟩ rfl
  (V := fun v H' => v = .tup [] ∧ H' = hpL [(0, .cells false 8 n (.fn fun j => elR (E j))), (1, .cells true 2 1 (.fn fun _ => [.int false .i64 (0), .int false .i64 (0)])), (2, .cells true 7 1 (.fn fun _ => netR 6 7 8 (i + 1) (ND E (i + 1)).length (BR E (i + 1)).length)), (3, .mSI true (zipF 0 (NM E (i + 1)))), (4, .mSI true (zipF 0 (ND E (i + 1)))), (5, .mSI true (zipF 0 (BR E (i + 1)))), (6, .cells true 8 ((i + 1)) (.fn fun j => elR (E j))), (7, .cells true 1 ((ND E (i + 1)).length) (.fn (txR (lget (ND E (i + 1)))))), (8, .cells true 1 ((BR E (i + 1)).length) (.fn (txR (lget (BR E (i + 1))))))]) ?_ (fun v H' hv => by
   obtain ⟨rfl, rfl⟩ := hv
   exact ⟨[], _, _, ofQ_r0 n (i + 1) (ND E (i + 1)).length (BR E (i + 1)).length i E (zipF 0 (NM E (i + 1))) (zipF 0 (ND E (i + 1))) (zipF 0 (BR E (i + 1))) (lget (ND E (i + 1))) (lget (BR E (i + 1))), rfl, rfl, rfl⟩)
 refine GoesB.weakL (fl := [(0, .ptr ⟨false, 2, 0, 0⟩), (1, .agg (elR (E i)))]) (bl := [(2, .cells true 7 1 (.fn fun _ => netR 6 7 8 i (ND E i).length (BR E i).length)), (3, .mSI true (zipF 0 (NM E i))), (4, .mSI true (zipF 0 (ND E i))), (5, .mSI true (zipF 0 (BR E i))), (6, .cells true 8 (i) (.fn fun j => elR (E j))), (7, .cells true 1 ((ND E i).length) (.fn (txR (lget (ND E i))))), (8, .cells true 1 ((BR E i).length) (.fn (txR (lget (BR E i))))), (0, .cells false 8 n (.fn fun j => elR (E j))), (1, .cells true 2 1 (.fn fun _ => [.int false .i64 (0), .int false .i64 (0)]))]) ⟨re rfl, re rfl, trivial⟩ ⟨hs rfl, hs rfl, hs rfl, hs rfl, hs rfl, hs rfl, hs rfl, hs rfl, hs rfl, trivial⟩ ?_
 refine GoesB.frameL (xl := [(0, .cells false 8 n (.fn fun j => elR (E j))), (1, .cells true 2 1 (.fn fun _ => [.int false .i64 (0), .int false .i64 (0)]))]) (bl := [(2, .cells true 7 1 (.fn fun _ => netR 6 7 8 i (ND E i).length (BR E i).length)), (3, .mSI true (zipF 0 (NM E i))), (4, .mSI true (zipF 0 (ND E i))), (5, .mSI true (zipF 0 (BR E i))), (6, .cells true 8 (i) (.fn fun j => elR (E j))), (7, .cells true 1 ((ND E i).length) (.fn (txR (lget (ND E i))))), (8, .cells true 1 ((BR E i).length) (.fn (txR (lget (BR E i)))))]) (put_goes (E i) i E (NM E i) (ND E i) (BR E i) rfl (by omega) (NM_len E i).symm (ND_b E i (by omega)) (BR_b E i (by omega)) hp (BR_new E hp)) (by omega) ⟨⟨by omega, fun j hj v hv => List.all_eq_true.1 (show (elR (E j)).all (fun v => v.low 6) = true from rfl) v hv⟩, ⟨by omega, fun j hj v hv => List.all_eq_true.1 (show ([AV.int false .i64 0, .int false .i64 0] : List AV).all (fun v => v.low 6) = true from rfl) v hv⟩, trivial⟩ rfl (fun e fr' H0' hh => ?_)
 obtain ⟨he, hH⟩ := hh
 exact ⟨_, hH, rfl, ⟨.inl rfl, .inl rfl, .inl rfl, .inl rfl, .inl rfl, .inl rfl, .inl rfl, trivial⟩, he, [], _, rfl, trivial, _, AV.ge.refl _, rfl, rfl⟩
theorem bad_chk {E : Nat → El} {i : Nat} (h : chkE (E i) ≠ 0) : badE chkE E i = chkE (E i) := by unfold badE; rw [decide_eq_false h, cond_false]
theorem bad_there {E : Nat → El} {i : Nat} (h : chkE (E i) = 0) (h2 : (pos (E i).n (NM E i)).isSome = true) : badE chkE E i = 9 := by unfold badE; rw [decide_eq_true h, cond_true, h2]; rfl
theorem bad_none {E : Nat → El} {i : Nat} (h : chkE (E i) = 0) (h2 : pos (E i).n (NM E i) = none) : badE chkE E i = 0 := by unfold badE; rw [decide_eq_true h, cond_true, h2]; rfl
theorem ofR_bad {E : Nat → El} {n i : Nat} {x : Int} (hn : n ≤ 256) (hi : i < n) (hg : ∀ j, j < i → badE chkE E j = 0) (h : badE chkE E i = x) (h0 : x ≠ 0) : ofR chkE E n = (x, (i : Int)) := by
 unfold ofR
 rw [decide_eq_false (by omega), cond_false, ofE_bad hi (by rw [h]; exact h0) (n - i) (by omega) (by omega) hg, h]
theorem oe_ok (n i : Nat) (E : Nat → El) (hi : i < n) (hn : n ≤ 256) (hc : chkE (E i) = 0) (hp : pos (E i).n (NM E i) = none) :
  GoesB Try.prog (.block 1 (.seq (nav [1,1,1,0,1,0,0,1,1,0,0,0] (bodyOf Try.f8)) (.seq (nav [1,1,1,0,1,0,0,1,1,0,0,1,0] (bodyOf Try.f8)) (.seq (nav [1,1,1,0,1,0,0,1,1,0,0,1,1,0] (bodyOf Try.f8)) (nav [1,1,1,0,1,0,0,1,1,0,0,1,1,1] (bodyOf Try.f8)))))) Try.f8.ntmps 1 9 12 (frL [(3, .ptr ⟨false, 1, 0, 0⟩), (4, .ptr ⟨false, 2, 0, 0⟩), (19, .slc true false ⟨false, 0, 0, 0⟩ n), (20, .int true .i64 n), (21, .int true .i64 (i : Int))]) (hpL [(0, .cells false 8 n (.fn fun j => elR (E j))), (1, .cells true 2 1 (.fn fun _ => [.int false .i64 (0), .int false .i64 (0)])), (2, .cells true 7 1 (.fn fun _ => netR 6 7 8 i (ND E i).length (BR E i).length)), (3, .mSI true (zipF 0 (NM E i))), (4, .mSI true (zipF 0 (ND E i))), (5, .mSI true (zipF 0 (BR E i))), (6, .cells true 8 (i) (.fn fun j => elR (E j))), (7, .cells true 1 ((ND E i).length) (.fn (txR (lget (ND E i))))), (8, .cells true 1 ((BR E i).length) (.fn (txR (lget (BR E i)))))]) (Nm [(3, .ptr ⟨false, 1, 0, 0⟩), (4, .ptr ⟨false, 2, 0, 0⟩), (19, .slc true false ⟨false, 0, 0, 0⟩ n), (20, .int true .i64 n), (21, .int true .i64 (i : Int))] [(0, .cells false 8 n (.fn fun j => elR (E j))), (1, .cells true 2 1 (.fn fun _ => [.int false .i64 (0), .int false .i64 (0)])), (2, .cells true 7 1 (.fn fun _ => netR 6 7 8 (i + 1) (ND E (i + 1)).length (BR E (i + 1)).length)), (3, .mSI true (zipF 0 (NM E (i + 1)))), (4, .mSI true (zipF 0 (ND E (i + 1)))), (5, .mSI true (zipF 0 (BR E (i + 1)))), (6, .cells true 8 ((i + 1)) (.fn fun j => elR (E j))), (7, .cells true 1 ((ND E (i + 1)).length) (.fn (txR (lget (ND E (i + 1)))))), (8, .cells true 1 ((BR E (i + 1)).length) (.fn (txR (lget (BR E (i + 1))))))]) := by
 refine GoesB.blockN ?_
 refine GoesB.seqN (K1 := 10) (F1 := [(3, .ptr ⟨false, 1, 0, 0⟩), (4, .ptr ⟨false, 2, 0, 0⟩), (19, .slc true false ⟨false, 0, 0, 0⟩ n), (20, .int true .i64 n), (21, .int true .i64 (i : Int)), (5, .int true .i64 (i : Int)), (6, .ptr ⟨false, 9, 0, 0⟩)]) (H1 := [(0, .cells false 8 n (.fn fun j => elR (E j))), (1, .cells true 2 1 (.fn fun _ => [.int false .i64 (0), .int false .i64 (0)])), (2, .cells true 7 1 (.fn fun _ => netR 6 7 8 i (ND E i).length (BR E i).length)), (3, .mSI true (zipF 0 (NM E i))), (4, .mSI true (zipF 0 (ND E i))), (5, .mSI true (zipF 0 (BR E i))), (6, .cells true 8 (i) (.fn fun j => elR (E j))), (7, .cells true 1 ((ND E i).length) (.fn (txR (lget (ND E i))))), (8, .cells true 1 ((BR E i).length) (.fn (txR (lget (BR E i))))), (9, .cells true 8 1 (.fn fun _ => elR (E i)))]) (GoesB.toN (oeC 1 (by omega) (E i) n i (ND E i).length (BR E i).length i E (zipF 0 (NM E i)) (zipF 0 (ND E i)) (zipF 0 (BR E i)) (lget (ND E i)) (lget (BR E i)) false (by omega) (by omega)) ⟨re rfl, re rfl, re rfl, re rfl, re rfl, re rfl, re rfl, trivial⟩ ⟨hs rfl, hs rfl, hs rfl, hs rfl, hs rfl, hs rfl, hs rfl, hs rfl, hs rfl, hbl1 rfl (by show elR (E (0 + i)) = elR (E i); rw [Nat.zero_add]), trivial⟩) (by omega) ?_
 refine GoesB.seqN (K1 := 10) (F1 := [(3, .ptr ⟨false, 1, 0, 0⟩), (4, .ptr ⟨false, 2, 0, 0⟩), (19, .slc true false ⟨false, 0, 0, 0⟩ n), (20, .int true .i64 n), (21, .int true .i64 (i : Int)), (5, .int true .i64 (i : Int)), (6, .ptr ⟨false, 9, 0, 0⟩)]) (H1 := [(0, .cells false 8 n (.fn fun j => elR (E j))), (1, .cells true 2 1 (.fn fun _ => [.int false .i64 (0), .int false .i64 (0)])), (2, .cells true 7 1 (.fn fun _ => netR 6 7 8 i (ND E i).length (BR E i).length)), (3, .mSI true (zipF 0 (NM E i))), (4, .mSI true (zipF 0 (ND E i))), (5, .mSI true (zipF 0 (BR E i))), (6, .cells true 8 (i) (.fn fun j => elR (E j))), (7, .cells true 1 ((ND E i).length) (.fn (txR (lget (ND E i))))), (8, .cells true 1 ((BR E i).length) (.fn (txR (lget (BR E i))))), (9, .cells true 8 1 (.fn fun _ => elR (E i)))]) ((oeD 1 (by omega) (E i) n i (ND E i).length (BR E i).length i E (zipF 0 (NM E i)) (zipF 0 (ND E i)) (zipF 0 (BR E i)) (lget (ND E i)) (lget (BR E i)) false).mono fun e fr' H' h => ?_) (by omega) ?_
 ·rw [decide_eq_true (show chk_0 _ _ _ _ _ _ _ _ = 0 from hc), cond_true] at h
  exact h
 refine GoesB.seqN (K1 := 10) (F1 := [(3, .ptr ⟨false, 1, 0, 0⟩), (4, .ptr ⟨false, 2, 0, 0⟩), (19, .slc true false ⟨false, 0, 0, 0⟩ n), (20, .int true .i64 n), (21, .int true .i64 (i : Int)), (5, .int true .i64 (i : Int)), (6, .ptr ⟨false, 9, 0, 0⟩)]) (H1 := [(0, .cells false 8 n (.fn fun j => elR (E j))), (1, .cells true 2 1 (.fn fun _ => [.int false .i64 (0), .int false .i64 (0)])), (2, .cells true 7 1 (.fn fun _ => netR 6 7 8 i (ND E i).length (BR E i).length)), (3, .mSI true (zipF 0 (NM E i))), (4, .mSI true (zipF 0 (ND E i))), (5, .mSI true (zipF 0 (BR E i))), (6, .cells true 8 (i) (.fn fun j => elR (E j))), (7, .cells true 1 ((ND E i).length) (.fn (txR (lget (ND E i))))), (8, .cells true 1 ((BR E i).length) (.fn (txR (lget (BR E i))))), (9, .cells true 8 1 (.fn fun _ => elR (E i)))]) ((oeE 1 (by omega) (E i) n i (ND E i).length (BR E i).length i E (zipF 0 (NM E i)) (zipF 0 (ND E i)) (zipF 0 (BR E i)) (lget (ND E i)) (lget (BR E i)) false).mono fun e fr' H' h => ?_) (by omega) (oe_put n i E hi hn hp)
 rw [isS_zip, hp] at h
 exact h
theorem oe_bad (n i : Nat) (E : Nat → El) (hi : i < n) (hn : n ≤ 256) (hg : ∀ j, j < i → badE chkE E j = 0) (hb : badE chkE E i ≠ 0) :
  GoesB Try.prog (.block 1 (.seq (nav [1,1,1,0,1,0,0,1,1,0,0,0] (bodyOf Try.f8)) (.seq (nav [1,1,1,0,1,0,0,1,1,0,0,1,0] (bodyOf Try.f8)) (.seq (nav [1,1,1,0,1,0,0,1,1,0,0,1,1,0] (bodyOf Try.f8)) (nav [1,1,1,0,1,0,0,1,1,0,0,1,1,1] (bodyOf Try.f8)))))) Try.f8.ntmps 1 9 12 (frL [(3, .ptr ⟨false, 1, 0, 0⟩), (4, .ptr ⟨false, 2, 0, 0⟩), (19, .slc true false ⟨false, 0, 0, 0⟩ n), (20, .int true .i64 n), (21, .int true .i64 (i : Int))]) (hpL [(0, .cells false 8 n (.fn fun j => elR (E j))), (1, .cells true 2 1 (.fn fun _ => [.int false .i64 (0), .int false .i64 (0)])), (2, .cells true 7 1 (.fn fun _ => netR 6 7 8 i (ND E i).length (BR E i).length)), (3, .mSI true (zipF 0 (NM E i))), (4, .mSI true (zipF 0 (ND E i))), (5, .mSI true (zipF 0 (BR E i))), (6, .cells true 8 (i) (.fn fun j => elR (E j))), (7, .cells true 1 ((ND E i).length) (.fn (txR (lget (ND E i))))), (8, .cells true 1 ((BR E i).length) (.fn (txR (lget (BR E i)))))]) (fun e fr' H' => e = .ret ∧ QF E n .ret fr' H') := by
 refine blockR ?_
 refine GoesB.seqN (K1 := 10) (F1 := [(3, .ptr ⟨false, 1, 0, 0⟩), (4, .ptr ⟨false, 2, 0, 0⟩), (19, .slc true false ⟨false, 0, 0, 0⟩ n), (20, .int true .i64 n), (21, .int true .i64 (i : Int)), (5, .int true .i64 (i : Int)), (6, .ptr ⟨false, 9, 0, 0⟩)]) (H1 := [(0, .cells false 8 n (.fn fun j => elR (E j))), (1, .cells true 2 1 (.fn fun _ => [.int false .i64 (0), .int false .i64 (0)])), (2, .cells true 7 1 (.fn fun _ => netR 6 7 8 i (ND E i).length (BR E i).length)), (3, .mSI true (zipF 0 (NM E i))), (4, .mSI true (zipF 0 (ND E i))), (5, .mSI true (zipF 0 (BR E i))), (6, .cells true 8 (i) (.fn fun j => elR (E j))), (7, .cells true 1 ((ND E i).length) (.fn (txR (lget (ND E i))))), (8, .cells true 1 ((BR E i).length) (.fn (txR (lget (BR E i))))), (9, .cells true 8 1 (.fn fun _ => elR (E i)))]) (GoesB.toN (oeC 1 (by omega) (E i) n i (ND E i).length (BR E i).length i E (zipF 0 (NM E i)) (zipF 0 (ND E i)) (zipF 0 (BR E i)) (lget (ND E i)) (lget (BR E i)) false (by omega) (by omega)) ⟨re rfl, re rfl, re rfl, re rfl, re rfl, re rfl, re rfl, trivial⟩ ⟨hs rfl, hs rfl, hs rfl, hs rfl, hs rfl, hs rfl, hs rfl, hs rfl, hs rfl, hbl1 rfl (by show elR (E (0 + i)) = elR (E i); rw [Nat.zero_add]), trivial⟩) (by omega) ?_
 by_cases hc : chkE (E i) = 0
 ·have hp : (pos (E i).n (NM E i)).isSome = true := by
   cases q : pos (E i).n (NM E i) with
   | none => exact absurd (bad_none hc q) hb
   | some _ => rfl
  refine GoesB.seqN (K1 := 10) (F1 := [(3, .ptr ⟨false, 1, 0, 0⟩), (4, .ptr ⟨false, 2, 0, 0⟩), (19, .slc true false ⟨false, 0, 0, 0⟩ n), (20, .int true .i64 n), (21, .int true .i64 (i : Int)), (5, .int true .i64 (i : Int)), (6, .ptr ⟨false, 9, 0, 0⟩)]) (H1 := [(0, .cells false 8 n (.fn fun j => elR (E j))), (1, .cells true 2 1 (.fn fun _ => [.int false .i64 (0), .int false .i64 (0)])), (2, .cells true 7 1 (.fn fun _ => netR 6 7 8 i (ND E i).length (BR E i).length)), (3, .mSI true (zipF 0 (NM E i))), (4, .mSI true (zipF 0 (ND E i))), (5, .mSI true (zipF 0 (BR E i))), (6, .cells true 8 (i) (.fn fun j => elR (E j))), (7, .cells true 1 ((ND E i).length) (.fn (txR (lget (ND E i))))), (8, .cells true 1 ((BR E i).length) (.fn (txR (lget (BR E i))))), (9, .cells true 8 1 (.fn fun _ => elR (E i)))]) ((oeD 1 (by omega) (E i) n i (ND E i).length (BR E i).length i E (zipF 0 (NM E i)) (zipF 0 (ND E i)) (zipF 0 (BR E i)) (lget (ND E i)) (lget (BR E i)) false).mono fun e fr' H' h => ?_) (by omega) ?_
  ·rw [decide_eq_true (show chk_0 _ _ _ _ _ _ _ _ = 0 from hc), cond_true] at h
   exact h
  refine seqR (K1 := 10) (by omega) ((oeE 1 (by omega) (E i) n i (ND E i).length (BR E i).length i E (zipF 0 (NM E i)) (zipF 0 (ND E i)) (zipF 0 (BR E i)) (lget (ND E i)) (lget (BR E i)) false).post fun e fr' H' h => ?_)
  rw [isS_zip, hp, cond_true] at h
  obtain ⟨rfl, rfl, rfl⟩ := h
  exact ⟨[(2, .nilp), (3, .ptr ⟨false, 1, 0, 0⟩)], [(1, .cells true 2 1 (.fn fun _ => [.int false .i64 9, .int true .i64 (i : Int)]))], ⟨re rfl, re rfl, trivial⟩, ⟨⟨_, rfl, rfl, rfl, rfl, of1 (p := fun j => _ = _) rfl⟩, trivial⟩, rfl, QF_bad _ _ (ofR_bad hn hi hg (bad_there hc hp) (by decide)) (by decide)⟩
 ·refine seqR (K1 := 10) (by omega) ((oeD 1 (by omega) (E i) n i (ND E i).length (BR E i).length i E (zipF 0 (NM E i)) (zipF 0 (ND E i)) (zipF 0 (BR E i)) (lget (ND E i)) (lget (BR E i)) false).post fun e fr' H' h => ?_)
  rw [decide_eq_false (show ¬ chk_0 _ _ _ _ _ _ _ _ = 0 from hc), cond_false] at h
  obtain ⟨rfl, rfl, rfl⟩ := h
  exact ⟨[(2, .nilp), (3, .ptr ⟨false, 1, 0, 0⟩)], [(1, .cells true 2 1 (.fn fun _ => [.int true .i64 (chkE (E i)), .int true .i64 (i : Int)]))], ⟨re rfl, re rfl, trivial⟩, ⟨⟨_, rfl, rfl, rfl, rfl, of1 (p := fun j => _ = _) rfl⟩, trivial⟩, rfl, QF_bad _ _ (ofR_bad hn hi hg (bad_chk hc) hc) hc⟩
theorem oe_step (n i : Nat) (E : Nat → El) (hi : i ≤ n) (hn : n ≤ 256) (hg : ∀ j, j < i → badE chkE E j = 0) :
  GoesB Try.prog (nav [1,1,1,0,1,0,0] (bodyOf Try.f8)) Try.f8.ntmps 1 9 9 (frL [(3, .ptr ⟨false, 1, 0, 0⟩), (4, .ptr ⟨false, 2, 0, 0⟩), (19, .slc true false ⟨false, 0, 0, 0⟩ n), (20, .int true .i64 n), (21, .int true .i64 (i : Int))]) (hpL [(0, .cells false 8 n (.fn fun j => elR (E j))), (1, .cells true 2 1 (.fn fun _ => [.int false .i64 (0), .int false .i64 (0)])), (2, .cells true 7 1 (.fn fun _ => netR 6 7 8 i (ND E i).length (BR E i).length)), (3, .mSI true (zipF 0 (NM E i))), (4, .mSI true (zipF 0 (ND E i))), (5, .mSI true (zipF 0 (BR E i))), (6, .cells true 8 (i) (.fn fun j => elR (E j))), (7, .cells true 1 ((ND E i).length) (.fn (txR (lget (ND E i))))), (8, .cells true 1 ((BR E i).length) (.fn (txR (lget (BR E i)))))]) (fun e fr H => (e = .normal ∧ i < n ∧ (∀ j, j < i + 1 → badE chkE E j = 0) ∧ fr = frL [(3, .ptr ⟨false, 1, 0, 0⟩), (4, .ptr ⟨false, 2, 0, 0⟩), (19, .slc true false ⟨false, 0, 0, 0⟩ n), (20, .int true .i64 n), (21, .int true .i64 ((i + 1 : Nat) : Int))] ∧ H = hpL [(0, .cells false 8 n (.fn fun j => elR (E j))), (1, .cells true 2 1 (.fn fun _ => [.int false .i64 (0), .int false .i64 (0)])), (2, .cells true 7 1 (.fn fun _ => netR 6 7 8 (i + 1) (ND E (i + 1)).length (BR E (i + 1)).length)), (3, .mSI true (zipF 0 (NM E (i + 1)))), (4, .mSI true (zipF 0 (ND E (i + 1)))), (5, .mSI true (zipF 0 (BR E (i + 1)))), (6, .cells true 8 ((i + 1)) (.fn fun j => elR (E j))), (7, .cells true 1 ((ND E (i + 1)).length) (.fn (txR (lget (ND E (i + 1)))))), (8, .cells true 1 ((BR E (i + 1)).length) (.fn (txR (lget (BR E (i + 1))))))]) ∨ (e = .exit 0 ∧ (∀ j, j < n → badE chkE E j = 0) ∧ fr = frL [(3, .ptr ⟨false, 1, 0, 0⟩), (4, .ptr ⟨false, 2, 0, 0⟩)] ∧ H = hpL [(0, .cells false 8 n (.fn fun j => elR (E j))), (1, .cells true 2 1 (.fn fun _ => [.int false .i64 (0), .int false .i64 (0)])), (2, .cells true 7 1 (.fn fun _ => netR 6 7 8 n (ND E n).length (BR E n).length)), (3, .mSI true (zipF 0 (NM E n))), (4, .mSI true (zipF 0 (ND E n))), (5, .mSI true (zipF 0 (BR E n))), (6, .cells true 8 (n) (.fn fun j => elR (E j))), (7, .cells true 1 ((ND E n).length) (.fn (txR (lget (ND E n))))), (8, .cells true 1 ((BR E n).length) (.fn (txR (lget (BR E n)))))]) ∨ (e = .ret ∧ QF E n .ret fr H)) := by
 rw [of_body]
 by_cases hlt : i < n
 ·by_cases hb : badE chkE E i = 0
  ·have hc : chkE (E i) = 0 := by
    by_cases c : chkE (E i) = 0
    ·exact c
    ·rw [bad_chk c] at hb; exact absurd hb c
   have hp : pos (E i).n (NM E i) = none := by
    cases q : pos (E i).n (NM E i) with
    | none => rfl
    | some y => rw [bad_there hc (by rw [q]; rfl)] at hb; exact absurd hb (by decide)
   have main : GoesB Try.prog (.seq (nav [1,1,1,0,1,0,0,0] (bodyOf Try.f8)) (.seq (nav [1,1,1,0,1,0,0,1,0] (bodyOf Try.f8)) (.seq (.block 1 (.seq (nav [1,1,1,0,1,0,0,1,1,0,0,0] (bodyOf Try.f8)) (.seq (nav [1,1,1,0,1,0,0,1,1,0,0,1,0] (bodyOf Try.f8)) (.seq (nav [1,1,1,0,1,0,0,1,1,0,0,1,1,0] (bodyOf Try.f8)) (nav [1,1,1,0,1,0,0,1,1,0,0,1,1,1] (bodyOf Try.f8)))))) (nav [1,1,1,0,1,0,0,1,1,1] (bodyOf Try.f8))))) Try.f8.ntmps 1 9 12 (frL [(3, .ptr ⟨false, 1, 0, 0⟩), (4, .ptr ⟨false, 2, 0, 0⟩), (19, .slc true false ⟨false, 0, 0, 0⟩ n), (20, .int true .i64 n), (21, .int true .i64 (i : Int))]) (hpL [(0, .cells false 8 n (.fn fun j => elR (E j))), (1, .cells true 2 1 (.fn fun _ => [.int false .i64 (0), .int false .i64 (0)])), (2, .cells true 7 1 (.fn fun _ => netR 6 7 8 i (ND E i).length (BR E i).length)), (3, .mSI true (zipF 0 (NM E i))), (4, .mSI true (zipF 0 (ND E i))), (5, .mSI true (zipF 0 (BR E i))), (6, .cells true 8 (i) (.fn fun j => elR (E j))), (7, .cells true 1 ((ND E i).length) (.fn (txR (lget (ND E i))))), (8, .cells true 1 ((BR E i).length) (.fn (txR (lget (BR E i)))))]) (Nm [(3, .ptr ⟨false, 1, 0, 0⟩), (4, .ptr ⟨false, 2, 0, 0⟩), (19, .slc true false ⟨false, 0, 0, 0⟩ n), (20, .int true .i64 n), (21, .int true .i64 ((i : Int) + 1 : Int))] [(0, .cells false 8 n (.fn fun j => elR (E j))), (1, .cells true 2 1 (.fn fun _ => [.int false .i64 (0), .int false .i64 (0)])), (2, .cells true 7 1 (.fn fun _ => netR 6 7 8 (i + 1) (ND E (i + 1)).length (BR E (i + 1)).length)), (3, .mSI true (zipF 0 (NM E (i + 1)))), (4, .mSI true (zipF 0 (ND E (i + 1)))), (5, .mSI true (zipF 0 (BR E (i + 1)))), (6, .cells true 8 ((i + 1)) (.fn fun j => elR (E j))), (7, .cells true 1 ((ND E (i + 1)).length) (.fn (txR (lget (ND E (i + 1)))))), (8, .cells true 1 ((BR E (i + 1)).length) (.fn (txR (lget (BR E (i + 1))))))]) := by
    refine GoesB.seqN (K1 := 9) (oeA 1 (by omega) (E i) n i (ND E i).length (BR E i).length i E (zipF 0 (NM E i)) (zipF 0 (ND E i)) (zipF 0 (BR E i)) (lget (ND E i)) (lget (BR E i)) false) (by omega) ?_
    refine GoesB.seqN (K1 := 9) (F1 := [(3, .ptr ⟨false, 1, 0, 0⟩), (4, .ptr ⟨false, 2, 0, 0⟩), (19, .slc true false ⟨false, 0, 0, 0⟩ n), (20, .int true .i64 n), (21, .int true .i64 (i : Int))]) (H1 := [(0, .cells false 8 n (.fn fun j => elR (E j))), (1, .cells true 2 1 (.fn fun _ => [.int false .i64 (0), .int false .i64 (0)])), (2, .cells true 7 1 (.fn fun _ => netR 6 7 8 i (ND E i).length (BR E i).length)), (3, .mSI true (zipF 0 (NM E i))), (4, .mSI true (zipF 0 (ND E i))), (5, .mSI true (zipF 0 (BR E i))), (6, .cells true 8 (i) (.fn fun j => elR (E j))), (7, .cells true 1 ((ND E i).length) (.fn (txR (lget (ND E i))))), (8, .cells true 1 ((BR E i).length) (.fn (txR (lget (BR E i)))))]) ((oeB 1 (by omega) (E i) n i (ND E i).length (BR E i).length i E (zipF 0 (NM E i)) (zipF 0 (ND E i)) (zipF 0 (BR E i)) (lget (ND E i)) (lget (BR E i)) (decide ((i : Int) < (n : Int)))).mono fun e fr' H' h => ?_) (by omega) ?_
    ·rw [decide_eq_true (by omega), cond_true] at h
     exact h
    exact GoesB.seqN (K1 := 12) (oe_ok n i E hlt hn hc hp) (by omega) (oeG 1 (by omega) (E i) n (i + 1) (ND E (i + 1)).length (BR E (i + 1)).length i E (zipF 0 (NM E (i + 1))) (zipF 0 (ND E (i + 1))) (zipF 0 (BR E (i + 1))) (lget (ND E (i + 1))) (lget (BR E (i + 1))) false (by omega))
   refine main.renG fun e fr' H' h => ?_
   obtain ⟨rfl, rfl, rfl⟩ := h
   exact ⟨id, [(3, .ptr ⟨false, 1, 0, 0⟩), (4, .ptr ⟨false, 2, 0, 0⟩), (19, .slc true false ⟨false, 0, 0, 0⟩ n), (20, .int true .i64 n), (21, .int true .i64 ((i + 1 : Nat) : Int))], [(0, .cells false 8 n (.fn fun j => elR (E j))), (1, .cells true 2 1 (.fn fun _ => [.int false .i64 (0), .int false .i64 (0)])), (2, .cells true 7 1 (.fn fun _ => netR 6 7 8 (i + 1) (ND E (i + 1)).length (BR E (i + 1)).length)), (3, .mSI true (zipF 0 (NM E (i + 1)))), (4, .mSI true (zipF 0 (ND E (i + 1)))), (5, .mSI true (zipF 0 (BR E (i + 1)))), (6, .cells true 8 ((i + 1)) (.fn fun j => elR (E j))), (7, .cells true 1 ((ND E (i + 1)).length) (.fn (txR (lget (ND E (i + 1)))))), (8, .cells true 1 ((BR E (i + 1)).length) (.fn (txR (lget (BR E (i + 1))))))], fun g hg => rfl, ⟨⟨_, rfl, AV.ge.refl _, rfl⟩, ⟨_, rfl, AV.ge.refl _, rfl⟩, ⟨_, rfl, AV.ge.refl _, rfl⟩, ⟨_, rfl, AV.ge.refl _, rfl⟩, ⟨_, rfl, AV.ge.refl _, rfl⟩, trivial⟩, ⟨rgR rfl rfl (fun j _ => rfl) (fun j _ => rfl) (by omega), rgB rfl rfl rfl (by omega), rgB rfl rfl rfl (by omega), rgM rfl rfl (by omega), rgM rfl rfl (by omega), rgM rfl rfl (by omega), rgR rfl rfl (fun j _ => rfl) (fun j _ => rfl) (by omega), rgR rfl rfl (fun j _ => rfl) (fun j _ => rfl) (by omega), rgR rfl rfl (fun j _ => rfl) (fun j _ => rfl) (by omega), trivial⟩, fun i j _ _ h => h, .inl ⟨rfl, hlt, fun j hj => by
    by_cases c : j < i
    ·exact hg j c
    ·obtain rfl : j = i := by omega
     exact hb, rfl, rfl⟩⟩
  ·have main : GoesB Try.prog (.seq (nav [1,1,1,0,1,0,0,0] (bodyOf Try.f8)) (.seq (nav [1,1,1,0,1,0,0,1,0] (bodyOf Try.f8)) (.seq (.block 1 (.seq (nav [1,1,1,0,1,0,0,1,1,0,0,0] (bodyOf Try.f8)) (.seq (nav [1,1,1,0,1,0,0,1,1,0,0,1,0] (bodyOf Try.f8)) (.seq (nav [1,1,1,0,1,0,0,1,1,0,0,1,1,0] (bodyOf Try.f8)) (nav [1,1,1,0,1,0,0,1,1,0,0,1,1,1] (bodyOf Try.f8)))))) (nav [1,1,1,0,1,0,0,1,1,1] (bodyOf Try.f8))))) Try.f8.ntmps 1 9 12 (frL [(3, .ptr ⟨false, 1, 0, 0⟩), (4, .ptr ⟨false, 2, 0, 0⟩), (19, .slc true false ⟨false, 0, 0, 0⟩ n), (20, .int true .i64 n), (21, .int true .i64 (i : Int))]) (hpL [(0, .cells false 8 n (.fn fun j => elR (E j))), (1, .cells true 2 1 (.fn fun _ => [.int false .i64 (0), .int false .i64 (0)])), (2, .cells true 7 1 (.fn fun _ => netR 6 7 8 i (ND E i).length (BR E i).length)), (3, .mSI true (zipF 0 (NM E i))), (4, .mSI true (zipF 0 (ND E i))), (5, .mSI true (zipF 0 (BR E i))), (6, .cells true 8 (i) (.fn fun j => elR (E j))), (7, .cells true 1 ((ND E i).length) (.fn (txR (lget (ND E i))))), (8, .cells true 1 ((BR E i).length) (.fn (txR (lget (BR E i)))))]) (fun e fr' H' => e = .ret ∧ QF E n .ret fr' H') := by
    refine GoesB.seqN (K1 := 9) (oeA 1 (by omega) (E i) n i (ND E i).length (BR E i).length i E (zipF 0 (NM E i)) (zipF 0 (ND E i)) (zipF 0 (BR E i)) (lget (ND E i)) (lget (BR E i)) false) (by omega) ?_
    refine GoesB.seqN (K1 := 9) (F1 := [(3, .ptr ⟨false, 1, 0, 0⟩), (4, .ptr ⟨false, 2, 0, 0⟩), (19, .slc true false ⟨false, 0, 0, 0⟩ n), (20, .int true .i64 n), (21, .int true .i64 (i : Int))]) (H1 := [(0, .cells false 8 n (.fn fun j => elR (E j))), (1, .cells true 2 1 (.fn fun _ => [.int false .i64 (0), .int false .i64 (0)])), (2, .cells true 7 1 (.fn fun _ => netR 6 7 8 i (ND E i).length (BR E i).length)), (3, .mSI true (zipF 0 (NM E i))), (4, .mSI true (zipF 0 (ND E i))), (5, .mSI true (zipF 0 (BR E i))), (6, .cells true 8 (i) (.fn fun j => elR (E j))), (7, .cells true 1 ((ND E i).length) (.fn (txR (lget (ND E i))))), (8, .cells true 1 ((BR E i).length) (.fn (txR (lget (BR E i)))))]) ((oeB 1 (by omega) (E i) n i (ND E i).length (BR E i).length i E (zipF 0 (NM E i)) (zipF 0 (ND E i)) (zipF 0 (BR E i)) (lget (ND E i)) (lget (BR E i)) (decide ((i : Int) < (n : Int)))).mono fun e fr' H' h => ?_) (by omega) ?_
    ·rw [decide_eq_true (by omega), cond_true] at h
     exact h
    exact seqR (K1 := 12) (by omega) (oe_bad n i E hlt hn hg hb)
   refine main.renG fun e fr' H' h => ?_
   obtain ⟨rfl, h⟩ := h
   have hq := h
   obtain ⟨_, ⟨h0, s, s', rfl, rfl⟩ | ⟨h0, rfl, rfl⟩⟩ := h
   ·exact ⟨id, [(2, .nilp), (3, .ptr ⟨false, 1, 0, 0⟩)], [(1, .cells true 2 1 (.fn fun _ => [.int s .i64 (ofR chkE E n).1, .int s' .i64 (ofR chkE E n).2]))], fun g hg => rfl, ⟨⟨_, rfl, AV.ge.refl _, rfl⟩, ⟨_, rfl, AV.ge.refl _, rfl⟩, trivial⟩, ⟨rgB rfl rfl rfl (by omega), trivial⟩, fun i j _ _ h => h, .inr (.inr ⟨rfl, hq⟩)⟩
   ·exact absurd h0 (by rw [ofR_bad hn hlt hg rfl hb]; exact hb)
 ·obtain rfl : i = n := by omega
  refine GoesB.seqN (K1 := 9) (oeA 1 (by omega) (E i) i i (ND E i).length (BR E i).length i E (zipF 0 (NM E i)) (zipF 0 (ND E i)) (zipF 0 (BR E i)) (lget (ND E i)) (lget (BR E i)) false) (by omega) ?_
  refine GoesB.seq (K1 := 9) (by omega) ((oeB 1 (by omega) (E i) i i (ND E i).length (BR E i).length i E (zipF 0 (NM E i)) (zipF 0 (ND E i)) (zipF 0 (BR E i)) (lget (ND E i)) (lget (BR E i)) (decide ((i : Int) < (i : Int)))).post fun e fr' H' h => ?_)
  rw [decide_eq_false (by omega), cond_false] at h
  obtain ⟨rfl, rfl, rfl⟩ := h
  exact ⟨[(3, .ptr ⟨false, 1, 0, 0⟩), (4, .ptr ⟨false, 2, 0, 0⟩)], [(0, .cells false 8 i (.fn fun j => elR (E j))), (1, .cells true 2 1 (.fn fun _ => [.int false .i64 (0), .int false .i64 (0)])), (2, .cells true 7 1 (.fn fun _ => netR 6 7 8 i (ND E i).length (BR E i).length)), (3, .mSI true (zipF 0 (NM E i))), (4, .mSI true (zipF 0 (ND E i))), (5, .mSI true (zipF 0 (BR E i))), (6, .cells true 8 (i) (.fn fun j => elR (E j))), (7, .cells true 1 ((ND E i).length) (.fn (txR (lget (ND E i))))), (8, .cells true 1 ((BR E i).length) (.fn (txR (lget (BR E i)))))], ⟨re rfl, re rfl, trivial⟩, ⟨hs rfl, hs rfl, hs rfl, hs rfl, hs rfl, hs rfl, hs rfl, hs rfl, hs rfl, trivial⟩, .inr (.inl ⟨rfl, hg, rfl, rfl⟩)⟩
theorem ofR_len {E : Nat → El} {n : Nat} (h : 256 < n) : ofR chkE E n = (3, -1) := by unfold ofR; rw [decide_eq_true h]; rfl
theorem ofR_end {E : Nat → El} {n : Nat} (hn : n ≤ 256) (hg : ∀ j, j < n → badE chkE E j = 0) : ofR chkE E n = bif decide (32 < (ND E n).length) || decide (64 < (ND E n).length + (BR E n).length) then (3, -1) else (0, 0) := by
 unfold ofR
 rw [decide_eq_false (by omega), cond_false, ofE_good hg]
 rfl
def sgC (x : Nat) : Nat := if x = 2 then 5 else if x = 3 then 2 else if x = 4 then 3 else if x = 5 then 4 else x
theorem sgC_inj : ∀ i j, i < 6 → j < 6 → sgC i = sgC j → i = j := by
 intro i j hi hj e
 unfold sgC at e
 split at e <;> split at e <;> (try split at e) <;> (try split at e) <;> (try split at e) <;> (try split at e) <;> (try split at e) <;> (try split at e) <;> omega
theorem of_goes (n : Nat) (E : Nat → El) : GoesB Try.prog (bodyOf Try.f8) Try.f8.ntmps 1 1 9 (frameOf [.slc true false ⟨false, 0, 0, 0⟩ n] 0 .e) (hpL [(0, .cells false 8 n (.fn fun j => elR (E j)))]) (QF E n) := by
 rw [of_is]
 refine GoesB.seqN (K1 := 2) (F1 := [(0, .slc true false ⟨false, 0, 0, 0⟩ n), (3, .ptr ⟨false, 1, 0, 0⟩)]) (H1 := [(0, .cells false 8 n (.fn fun j => elR (E j))), (1, .cells true 2 1 (.fn fun _ => [.int false .i64 (0), .int false .i64 (0)]))]) (GoesB.toN (ofA 1 (by omega) (E 0) n 0 (ND E 0).length (BR E 0).length 0 E (zipF 0 (NM E 0)) (zipF 0 (ND E 0)) (zipF 0 (BR E 0)) (lget (ND E 0)) (lget (BR E 0)) false) ⟨re rfl, re rfl, trivial⟩ ⟨hs rfl, hbl1 rfl, trivial⟩) (by omega) ?_
 by_cases hn : 256 < n
 ·refine (seqR (R := QF E n .ret) (K1 := 2) (by omega) ((ofB 1 (by omega) (E 0) n 0 (ND E 0).length (BR E 0).length 0 E (zipF 0 (NM E 0)) (zipF 0 (ND E 0)) (zipF 0 (BR E 0)) (lget (ND E 0)) (lget (BR E 0)) false).post fun e fr' H' h => ?_)).mono fun e fr' H' h => ?_
  ·rw [decide_eq_true (by omega), cond_true] at h
   obtain ⟨rfl, rfl, rfl⟩ := h
   exact ⟨[(2, .nilp), (3, .ptr ⟨false, 1, 0, 0⟩)], [(1, .cells true 2 1 (.fn fun _ => [.int false .i64 3, .int false .i64 (-1)]))], ⟨re rfl, re rfl, trivial⟩, ⟨⟨_, rfl, rfl, rfl, rfl, of1 (p := fun j => _ = _) rfl⟩, trivial⟩, rfl, QF_bad _ _ (ofR_len hn) (by decide)⟩
  ·obtain ⟨rfl, h⟩ := h
   exact h
 have hn : n ≤ 256 := by omega
 refine GoesB.seqN (K1 := 2) (F1 := [(0, .slc true false ⟨false, 0, 0, 0⟩ n), (3, .ptr ⟨false, 1, 0, 0⟩)]) (H1 := [(0, .cells false 8 n (.fn fun j => elR (E j))), (1, .cells true 2 1 (.fn fun _ => [.int false .i64 (0), .int false .i64 (0)]))]) ((ofB 1 (by omega) (E 0) n 0 (ND E 0).length (BR E 0).length 0 E (zipF 0 (NM E 0)) (zipF 0 (ND E 0)) (zipF 0 (BR E 0)) (lget (ND E 0)) (lget (BR E 0)) false).mono fun e fr' H' h => ?_) (by omega) ?_
 ·rw [decide_eq_false (by omega), cond_false] at h
  exact h
 refine GoesB.seq (K1 := 6) (by omega) ((ofC 1 (by omega) (E 0) n 0 (ND E 0).length (BR E 0).length 0 E (zipF 0 (NM E 0)) (zipF 0 (ND E 0)) (zipF 0 (BR E 0)) (lget (ND E 0)) (lget (BR E 0)) false).renG (K'' := 6) fun e fr' H' h => ?_)
 obtain ⟨rfl, rfl, rfl⟩ := h
 refine ⟨sgC, [(0, .slc true false ⟨false, 0, 0, 0⟩ n), (3, .ptr ⟨false, 1, 0, 0⟩), (4, .ptr ⟨false, 2, 0, 0⟩)], [(0, .cells false 8 n (.fn fun j => elR (E j))), (1, .cells true 2 1 (.fn fun _ => [.int false .i64 (0), .int false .i64 (0)])), (2, .cells true 7 1 (.fn fun _ => [.bool true, .nils, .mp 3, .nils, .mp 4, .nils, .mp 5])), (3, .mSI false []), (4, .mSI false []), (5, .mSI false [])], fun g hg => by
  obtain rfl : g = 0 := by omega
  rfl, ⟨⟨_, rfl, AV.ge.refl _, rfl⟩, ⟨_, rfl, AV.ge.refl _, rfl⟩, ⟨_, rfl, AV.ge.refl _, rfl⟩, trivial⟩, ⟨rgR rfl rfl (fun j _ => rfl) (fun j _ => rfl) (by omega), rgB rfl rfl rfl (by omega), ⟨_, rfl, ⟨rfl, rfl, rfl, of1 (p := fun j => _ = _) rfl⟩, fun j hj v hv => List.all_eq_true.1 (show ([.bool true, .nils, .mp 3, .nils, .mp 4, .nils, .mp 5] : List AV).all (fun v => v.low 6) = true from rfl) v hv, by omega⟩, rgM rfl rfl (by omega), rgM rfl rfl (by omega), rgM rfl rfl (by omega), trivial⟩, sgC_inj, ?_⟩
 refine GoesB.phantomR 2 8 (fun j => elR (E j)) 1 [.bool true, .nils, .mp 3, .nils, .mp 4, .nils, .mp 5] rfl rfl rfl (by omega) (by omega) ?_
 refine GoesB.phantomR 2 1 (txR (lget [])) 3 [.bool true, noSlc 6, .mp 3, .nils, .mp 4, .nils, .mp 5] rfl rfl rfl (by omega) (by omega) ?_
 refine GoesB.phantomR 2 1 (txR (lget [])) 5 [.bool true, noSlc 6, .mp 3, noSlc 7, .mp 4, .nils, .mp 5] rfl rfl rfl (by omega) (by omega) ?_
 refine GoesB.weakML (fl := [(0, .slc true false ⟨false, 0, 0, 0⟩ n), (3, .ptr ⟨false, 1, 0, 0⟩), (4, .ptr ⟨false, 2, 0, 0⟩)]) (bl := [(0, .cells false 8 n (.fn fun j => elR (E j))), (1, .cells true 2 1 (.fn fun _ => [.int false .i64 (0), .int false .i64 (0)])), (2, .cells true 7 1 (.fn fun _ => netR 6 7 8 0 (ND E 0).length (BR E 0).length)), (3, .mSI true (zipF 0 (NM E 0))), (4, .mSI true (zipF 0 (ND E 0))), (5, .mSI true (zipF 0 (BR E 0))), (6, .cells true 8 (0) (.fn fun j => elR (E j))), (7, .cells true 1 ((ND E 0).length) (.fn (txR (lget (ND E 0))))), (8, .cells true 1 ((BR E 0).length) (.fn (txR (lget (BR E 0)))))]) ⟨re rfl, re rfl, re rfl, trivial⟩ ⟨⟨_, rfl, .inl ⟨rfl, rfl, rfl, fun j _ => RowGe_refl _ rfl⟩⟩, ⟨_, rfl, .inl ⟨rfl, rfl, rfl, fun j _ => RowGe_refl _ rfl⟩⟩, ⟨_, rfl, .inl ⟨rfl, rfl, rfl, fun j _ => RowGe_refl _ rfl⟩⟩, ⟨_, rfl, .inr ⟨_, _, _, rfl, rfl⟩⟩, ⟨_, rfl, .inr ⟨_, _, _, rfl, rfl⟩⟩, ⟨_, rfl, .inr ⟨_, _, _, rfl, rfl⟩⟩, ⟨_, rfl, .inl ⟨rfl, rfl, rfl, fun j _ => RowGe_refl _ rfl⟩⟩, ⟨_, rfl, .inl ⟨rfl, rfl, rfl, fun j _ => RowGe_refl _ rfl⟩⟩, ⟨_, rfl, .inl ⟨rfl, rfl, rfl, fun j _ => RowGe_refl _ rfl⟩⟩, trivial⟩ ?_
 have loop := GoesB.count (P := Try.prog) (n := Try.f8.ntmps) (B := 1) (K := 9) (c := (nav [1,1,1,0,1,0,0] (bodyOf Try.f8))) (id := 0) n (fun i => [(3, .ptr ⟨false, 1, 0, 0⟩), (4, .ptr ⟨false, 2, 0, 0⟩), (19, .slc true false ⟨false, 0, 0, 0⟩ n), (20, .int true .i64 n), (21, .int true .i64 (i : Int))]) (fun i => [(0, .cells false 8 n (.fn fun j => elR (E j))), (1, .cells true 2 1 (.fn fun _ => [.int false .i64 (0), .int false .i64 (0)])), (2, .cells true 7 1 (.fn fun _ => netR 6 7 8 i (ND E i).length (BR E i).length)), (3, .mSI true (zipF 0 (NM E i))), (4, .mSI true (zipF 0 (ND E i))), (5, .mSI true (zipF 0 (BR E i))), (6, .cells true 8 (i) (.fn fun j => elR (E j))), (7, .cells true 1 ((ND E i).length) (.fn (txR (lget (ND E i))))), (8, .cells true 1 ((BR E i).length) (.fn (txR (lget (BR E i)))))]) [(3, .ptr ⟨false, 1, 0, 0⟩), (4, .ptr ⟨false, 2, 0, 0⟩)] [(0, .cells false 8 n (.fn fun j => elR (E j))), (1, .cells true 2 1 (.fn fun _ => [.int false .i64 (0), .int false .i64 (0)])), (2, .cells true 7 1 (.fn fun _ => netR 6 7 8 n (ND E n).length (BR E n).length)), (3, .mSI true (zipF 0 (NM E n))), (4, .mSI true (zipF 0 (ND E n))), (5, .mSI true (zipF 0 (BR E n))), (6, .cells true 8 (n) (.fn fun j => elR (E j))), (7, .cells true 1 ((ND E n).length) (.fn (txR (lget (ND E n))))), (8, .cells true 1 ((BR E n).length) (.fn (txR (lget (BR E n)))))] (fun i => ∀ j, j < i → badE chkE E j = 0) (QF E n .ret) (fun j hj => absurd hj (Nat.not_lt_zero _)) (fun i hi hg => oe_step n i E hi hn hg)
 refine GoesB.seq (K1 := 9) (by omega) (GoesB.seqN (K1 := 9) (F1 := [(3, .ptr ⟨false, 1, 0, 0⟩), (4, .ptr ⟨false, 2, 0, 0⟩), (19, .slc true false ⟨false, 0, 0, 0⟩ n), (20, .int true .i64 n), (21, .int true .i64 ((0 : Nat) : Int))]) (H1 := [(0, .cells false 8 n (.fn fun j => elR (E j))), (1, .cells true 2 1 (.fn fun _ => [.int false .i64 (0), .int false .i64 (0)])), (2, .cells true 7 1 (.fn fun _ => netR 6 7 8 0 (ND E 0).length (BR E 0).length)), (3, .mSI true (zipF 0 (NM E 0))), (4, .mSI true (zipF 0 (ND E 0))), (5, .mSI true (zipF 0 (BR E 0))), (6, .cells true 8 (0) (.fn fun j => elR (E j))), (7, .cells true 1 ((ND E 0).length) (.fn (txR (lget (ND E 0))))), (8, .cells true 1 ((BR E 0).length) (.fn (txR (lget (BR E 0)))))]) (GoesB.toN (ofD 1 (by omega) (E 0) n 0 (ND E 0).length (BR E 0).length 0 E (zipF 0 (NM E 0)) (zipF 0 (ND E 0)) (zipF 0 (BR E 0)) (lget (ND E 0)) (lget (BR E 0)) false) ⟨re rfl, re rfl, re rfl, re rfl, ⟨_, rfl, AV.ge.int _ _ _ _⟩, trivial⟩ ⟨hs rfl, hs rfl, hs rfl, hs rfl, hs rfl, hs rfl, hs rfl, hs rfl, hs rfl, trivial⟩) (by omega) (loop.mono fun e fr' H' h => ?_))
 rcases h with ⟨rfl, hg, rfl, rfl⟩ | ⟨rfl, h⟩
 ·have hend := ofR_end hn hg
  have lN := ND_b E n hn
  have lB := BR_b E n hn
  have hh := ofG 1 (by omega) (E 0) n n (ND E n).length (BR E n).length 0 E (zipF 0 (NM E n)) (zipF 0 (ND E n)) (zipF 0 (BR E n)) (lget (ND E n)) (lget (BR E n)) false (fun _ _ => by omega)
  have leaf : ofR chkE E n = (3, -1) → GoesB Try.prog (nav [1,1,1,1,0] (bodyOf Try.f8)) Try.f8.ntmps 1 9 9 (frL [(3, .ptr ⟨false, 1, 0, 0⟩), (4, .ptr ⟨false, 2, 0, 0⟩)]) (hpL [(0, .cells false 8 n (.fn fun j => elR (E j))), (1, .cells true 2 1 (.fn fun _ => [.int false .i64 (0), .int false .i64 (0)])), (2, .cells true 7 1 (.fn fun _ => netR 6 7 8 n (ND E n).length (BR E n).length)), (3, .mSI true (zipF 0 (NM E n))), (4, .mSI true (zipF 0 (ND E n))), (5, .mSI true (zipF 0 (BR E n))), (6, .cells true 8 (n) (.fn fun j => elR (E j))), (7, .cells true 1 ((ND E n).length) (.fn (txR (lget (ND E n))))), (8, .cells true 1 ((BR E n).length) (.fn (txR (lget (BR E n)))))]) (fun e fr' H' => e = .ret ∧ fr' = frL [(2, .nilp), (3, .ptr ⟨false, 1, 0, 0⟩)] ∧ H' = hpL [(1, .cells true 2 1 (.fn fun _ => [.int false .i64 3, .int false .i64 (-1)]))]) → GoesB Try.prog (.seq (nav [1,1,1,1,0] (bodyOf Try.f8)) (nav [1,1,1,1,1] (bodyOf Try.f8))) Try.f8.ntmps 1 9 9 (frL [(3, .ptr ⟨false, 1, 0, 0⟩), (4, .ptr ⟨false, 2, 0, 0⟩)]) (hpL [(0, .cells false 8 n (.fn fun j => elR (E j))), (1, .cells true 2 1 (.fn fun _ => [.int false .i64 (0), .int false .i64 (0)])), (2, .cells true 7 1 (.fn fun _ => netR 6 7 8 n (ND E n).length (BR E n).length)), (3, .mSI true (zipF 0 (NM E n))), (4, .mSI true (zipF 0 (ND E n))), (5, .mSI true (zipF 0 (BR E n))), (6, .cells true 8 (n) (.fn fun j => elR (E j))), (7, .cells true 1 ((ND E n).length) (.fn (txR (lget (ND E n))))), (8, .cells true 1 ((BR E n).length) (.fn (txR (lget (BR E n)))))]) (QF E n) := fun q h => (seqR (R := QF E n .ret) (K1 := 9) (by omega) (h.mono fun e fr' H' h => by
    obtain ⟨rfl, rfl, rfl⟩ := h
    exact ⟨rfl, QF_bad _ _ q (by decide)⟩)).mono fun e fr' H' h => by
   obtain ⟨rfl, h⟩ := h
   exact h
  by_cases c1 : 32 < (ND E n).length
  ·refine leaf (by rw [hend, decide_eq_true c1]; rfl) (hh.post fun e fr' H' h => ?_)
   rw [decide_eq_true (by omega), cond_true] at h
   obtain ⟨rfl, rfl, rfl⟩ := h
   exact ⟨[(2, .nilp), (3, .ptr ⟨false, 1, 0, 0⟩)], [(1, .cells true 2 1 (.fn fun _ => [.int false .i64 3, .int false .i64 (-1)]))], ⟨re rfl, re rfl, trivial⟩, ⟨⟨_, rfl, rfl, rfl, rfl, of1 (p := fun j => _ = _) rfl⟩, trivial⟩, rfl, rfl, rfl⟩
  ·by_cases c2 : 64 < (ND E n).length + (BR E n).length
   ·refine leaf (by rw [hend, decide_eq_false c1, decide_eq_true c2]; rfl) (hh.post fun e fr' H' h => ?_)
    rw [decide_eq_false (by omega), cond_false, decide_eq_true (by omega), cond_true] at h
    obtain ⟨rfl, rfl, rfl⟩ := h
    exact ⟨[(2, .nilp), (3, .ptr ⟨false, 1, 0, 0⟩)], [(1, .cells true 2 1 (.fn fun _ => [.int false .i64 3, .int false .i64 (-1)]))], ⟨re rfl, re rfl, trivial⟩, ⟨⟨_, rfl, rfl, rfl, rfl, of1 (p := fun j => _ = _) rfl⟩, trivial⟩, rfl, rfl, rfl⟩
   ·have h0 : (ofR chkE E n).1 = 0 := by rw [hend, decide_eq_false c1, decide_eq_false c2]; rfl
    refine GoesB.seqN (K1 := 9) (F1 := [(3, .ptr ⟨false, 1, 0, 0⟩), (4, .ptr ⟨false, 2, 0, 0⟩)]) (H1 := [(0, .cells false 8 n (.fn fun j => elR (E j))), (1, .cells true 2 1 (.fn fun _ => [.int false .i64 (0), .int false .i64 (0)])), (2, .cells true 7 1 (.fn fun _ => netR 6 7 8 n (ND E n).length (BR E n).length)), (3, .mSI true (zipF 0 (NM E n))), (4, .mSI true (zipF 0 (ND E n))), (5, .mSI true (zipF 0 (BR E n))), (6, .cells true 8 (n) (.fn fun j => elR (E j))), (7, .cells true 1 ((ND E n).length) (.fn (txR (lget (ND E n))))), (8, .cells true 1 ((BR E n).length) (.fn (txR (lget (BR E n)))))]) (hh.mono fun e fr' H' h => ?_) (by omega) ?_
    ·rw [decide_eq_false (by omega), cond_false, decide_eq_false (by omega), cond_false] at h
     exact h
    refine (ofH 1 (by omega) (E 0) n n (ND E n).length (BR E n).length 0 E (zipF 0 (NM E n)) (zipF 0 (ND E n)) (zipF 0 (BR E n)) (lget (ND E n)) (lget (BR E n)) false).post fun e fr' H' h => ?_
    obtain ⟨rfl, rfl, rfl⟩ := h
    exact ⟨[(2, .ptr ⟨false, 2, 0, 0⟩), (3, .ptr ⟨false, 1, 0, 0⟩)], [(1, .cells true 2 1 (.fn fun _ => [.int false .i64 (0), .int false .i64 (0)])), (2, .cells true 7 1 (.fn fun _ => netR 6 7 8 n (ND E n).length (BR E n).length)), (3, .mSI true (zipF 0 (NM E n))), (4, .mSI true (zipF 0 (ND E n))), (5, .mSI true (zipF 0 (BR E n))), (6, .cells true 8 (n) (.fn fun j => elR (E j))), (7, .cells true 1 ((ND E n).length) (.fn (txR (lget (ND E n))))), (8, .cells true 1 ((BR E n).length) (.fn (txR (lget (BR E n)))))], ⟨re rfl, re rfl, trivial⟩, ⟨⟨_, rfl, rfl, rfl, rfl, of1 (p := fun j => _ = _) rfl⟩, hs rfl, hs rfl, hs rfl, hs rfl, hs rfl, hs rfl, hs rfl, trivial⟩, rfl, .inr ⟨h0, rfl, rfl⟩⟩
 ·exact h


theorem elR_inS {S : Nat → Prop} {z : El} {o : Nat} {v : AV} (h : (elR z)[o]? = some v) : v.inS S := by
 match o, h with
 | 0, h => cases h; trivial
 | 1, h => cases h; trivial
 | 2, h => cases h; trivial
 | 3, h => cases h; trivial
 | 4, h => cases h; trivial
 | 5, h => cases h; trivial
 | 6, h => cases h; trivial
 | 7, h => cases h; trivial
theorem netG_inS {N n q r o : Nat} {v : AV} (h : (netG N (N + 1) (N + 2) (N + 3) (N + 4) (N + 5) n q r)[o]? = some v) : v.inS (fun i => N ≤ i) := by
 match o, h with
 | 0, h => cases h; trivial
 | 1, h => cases h; show N ≤ N + 3; omega
 | 2, h => cases h; show N ≤ N; omega
 | 3, h => cases h; show N ≤ N + 4; omega
 | 4, h => cases h; show N ≤ N + 1; omega
 | 5, h => cases h; show N ≤ N + 5; omega
 | 6, h => cases h; show N ≤ N + 2; omega
theorem netG_low {N n q r K : Nat} {v : AV} (h : v ∈ netG N (N + 1) (N + 2) (N + 3) (N + 4) (N + 5) n q r) (hK : N + 6 ≤ K) : v.low K = true := by
 simp only [netG, List.mem_cons, List.not_mem_nil, or_false] at h
 rcases h with rfl | rfl | rfl | rfl | rfl | rfl | rfl <;> first | rfl | exact Nat.ble_eq_true_of_le (show Nat.succ N ≤ K by omega) | exact Nat.ble_eq_true_of_le (show Nat.succ (N + 1) ≤ K by omega) | exact Nat.ble_eq_true_of_le (show Nat.succ (N + 2) ≤ K by omega) | exact Nat.ble_eq_true_of_le (show Nat.succ (N + 3) ≤ K by omega) | exact Nat.ble_eq_true_of_le (show Nat.succ (N + 4) ≤ K by omega) | exact Nat.ble_eq_true_of_le (show Nat.succ (N + 5) ≤ K by omega)
theorem ge_agg2 {x y x' y' : AV} (h : AV.ge x x') (k : AV.ge y y') : AV.ge (.agg [x, y]) (.agg [x', y']) := fun N μ c hr => by
 simp only [Rep, Reps] at hr ⊢
 obtain ⟨cs, e, c1, r1, e1, h1, c2, r2, e2, h2, e3⟩ := hr
 exact ⟨cs, e, c1, r1, e1, h _ _ _ h1, c2, r2, e2, k _ _ _ h2, e3⟩
/-- ofR, not to be unfolded by a run -/
noncomputable def ofX : (Nat → El) → Nat → Int × Int := Classical.choose (⟨ofR chkE, rfl⟩ : ∃ f, f = ofR chkE)
theorem ofX_is : ofX = ofR chkE := Classical.choose_spec (⟨ofR chkE, rfl⟩ : ∃ f, f = ofR chkE)
noncomputable def netofS : List AV → M AV
 | [x] => (rdQ 8 x PEQ).andThen fun y => (M.dec (decide ((ofX (rowsE y.2) y.1).1 = 0))).andThen fun d => bif d then (netNew (rowsE y.2) y.1).andThen fun N => M.ret (.tup [.ptr ⟨false, N, 0, 0⟩, .agg [.int false .i64 0, .int false .i64 0]]) else M.ret (.tup [.nilp, .agg [.int true .i64 (ofX (rowsE y.2) y.1).1, .int true .i64 (ofX (rowsE y.2) y.1).2]])
 | _ => M.no
theorem netofS_tch : ∀ args, Tch (netofS args) := by
 intro args
 unfold netofS
 split
 ·exact (Tch_rdQ _ _ _).andThen fun _ => (Tch.dec _).andThen fun d => Tch.cond ((Tch_netNew _ _).andThen fun _ => Tch.ret _) (Tch.ret _)
 ·exact Tch.no
theorem getD_sub (l : List Nat) (N k : Nat) : l.getD (N + k - N) 0 = l.getD k 0 := by rw [Nat.add_sub_cancel_left]
theorem getD_sub0 (l : List Nat) (N : Nat) : l.getD (N - N) 0 = l.getD 0 0 := by rw [Nat.sub_self]
theorem netG_ren (N n q r : Nat) : rens (fun i => [3, 4, 5, 6, 7, 8, 2].getD (i - N) 0) (netG N (N + 1) (N + 2) (N + 3) (N + 4) (N + 5) n q r) = netR 6 7 8 n q r := by
 simp only [netG, netR, rens, AV.ren, AA.ren, getD_sub, getD_sub0]
 rfl
theorem of_weak (n : Nat) (f : Nat → List AV) (h : PE n f) : GoesB Try.prog (bodyOf Try.f8) Try.f8.ntmps 1 1 9 (frameOf [.slc true false ⟨false, 0, 0, 0⟩ n] 0 .e) (hpL [(0, .cells false 8 n (.fn f))]) (QF (rowsE f) n) :=
 GoesB.weakG (H0 := hpL [(0, .cells false 8 n (.fn fun j => elR (rowsE f j)))]) (fun t v ht => ⟨v, ht, AV.ge.refl _⟩) (fun i b hb => by
  have hm := hpL_get hb
  simp only [List.mem_cons, List.not_mem_nil, or_false] at hm
  cases hm
  exact ⟨_, rfl, rfl, rfl, rfl, h.of⟩) (of_goes n (rowsE f))
theorem netofS_ok : ∀ args v g g', netofS args g = .done v g' → CallIs Try.prog 8 args v g g' := by
 intro args v g g' h
 unfold netofS at h
 simp only [ofX_is] at h
 split at h
 case h_2 => exact (no_done h).elim
 rename_i x
 obtain ⟨⟨n, f⟩, g1, a1, h1⟩ := done_of h
 clear h
 obtain ⟨qv, kv, fv0⟩ := rdQ_done a1 (by omega) (fun h => h.low)
 have fv : qv → Vw.Ok ⟨x, 8, n, f⟩ g ∧ PE n f := fun h => ⟨(fv0 h).1, (fv0 h).2.of⟩
 obtain ⟨d, g2, a2, h2⟩ := done_of h1
 clear h1
 dsimp only at a2 h2
 have kk := kv.trans (dec_done a2)
 have hrep : qv → ∀ N μ (cs : List Value), Reps N μ [x] cs → Reps 1 (vwMM μ [⟨x, 8, n, f⟩]) [slcV 0 n] cs := fun hp N μ cs hcs => by
  simp only [Reps] at hcs ⊢
  obtain ⟨c, r, rfl, hc, rfl⟩ := hcs
  exact ⟨c, [], rfl, vw_val (l := [⟨x, 8, n, f⟩]) (fv hp).1 rfl hc, rfl⟩
 have hvs : qv → ∀ v ∈ [(⟨x, 8, n, f⟩ : Vw)], v.Ok g := fun hp v hv => by
  rw [List.mem_singleton.1 hv]; exact (fv hp).1
 cases d with
 | true =>
  rw [cond_true] at h2
  obtain ⟨N, g3, a3, h3⟩ := done_of h2
  obtain ⟨rfl, rfl⟩ := ret_done h3
  obtain ⟨rfl, e1, e2, e3⟩ := netNew_done a3
  rw [kk.1, kk.2.1] at e1
  rw [kk.2.1] at e2 ⊢
  refine readsG (c := (bodyOf Try.f8)) Try.func8 (by kernel_rfl) (by kernel_rfl) kk [⟨x, 8, n, f⟩] (fun hp => hvs hp.1) (argsC := [slcV 0 n]) (fun hp => hrep hp.1) (nms := [3, 4, 5, 6, 7, 8, 2]) (bs := netB g.nx (rowsE f) n) (K' := 9) (fun hp => ?_) ?_ ?_ e1 e2 (fun hc => by rw [← e3]; exact hc)
  ·refine (of_weak n f (fv hp.1).2).mono fun e fr' H' h => ?_
   have he := of_decide_eq_true hp.2
   obtain ⟨rfl, ⟨c0, _⟩ | ⟨_, rfl, rfl⟩⟩ := h
   ·exact (c0 he).elim
   ·refine ⟨.inl rfl, [.ptr ⟨false, 2, 0, 0⟩, .agg [.int false .i64 0, .int false .i64 0]], _, rfl, trivial, ?_, rfl, ?_, by decide⟩
    ·simp only [AV.ren, rens, AA.ren, getD_sub]
     exact AV.ge.refl _
    ·intro i b hb
     have G : ∀ j, j < 7 → [3, 4, 5, 6, 7, 8, 2][j]? = some ([3, 4, 5, 6, 7, 8, 2].getD j 0) := by decide
     have tx : ∀ (K : Nat) (l : List Tx) (j : Nat) (v : AV), v ∈ txR (lget l) j → v.low K = true := fun K l j v hv => by rw [List.mem_singleton.1 hv]; rfl
     have tx2 : ∀ (S : Nat → Prop) (l : List Tx) (j o : Nat) (v : AV), (txR (lget l) j)[o]? = some v → v.inS S := fun S l j o v hv => by
      match o, hv with
      | 0, hv => cases hv; trivial
     match i, hb with
     | 0, hb => cases hb; exact ⟨3, _, rfl, rfl, SameC.refl _, rfl, trivial, trivial⟩
     | 1, hb => cases hb; exact ⟨4, _, rfl, rfl, SameC.refl _, rfl, trivial, trivial⟩
     | 2, hb => cases hb; exact ⟨5, _, rfl, rfl, SameC.refl _, rfl, trivial, trivial⟩
     | 3, hb => cases hb; exact ⟨6, _, rfl, rfl, ⟨rfl, rfl, rfl, fun j hj => rfl⟩, rfl, fun j hj v hv => List.all_eq_true.1 (elR_low _ (rowsE f j)) v hv, fun j hj o v hv => elR_inS hv⟩
     | 4, hb => cases hb; exact ⟨7, _, rfl, rfl, ⟨rfl, rfl, rfl, fun j hj => rfl⟩, rfl, fun j hj v hv => tx _ _ _ v hv, fun j hj o v hv => tx2 _ _ _ o v hv⟩
     | 5, hb => cases hb; exact ⟨8, _, rfl, rfl, ⟨rfl, rfl, rfl, fun j hj => rfl⟩, rfl, fun j hj v hv => tx _ _ _ v hv, fun j hj o v hv => tx2 _ _ _ o v hv⟩
     | 6, hb => cases hb; exact ⟨2, _, rfl, rfl, ⟨rfl, rfl, rfl, fun j hj => (netG_ren _ _ _ _).symm⟩, rfl, fun j hj v hv => netG_low hv (by simp only [netB, List.length_cons, List.length_nil]; omega), fun j hj o v hv => netG_inS hv⟩
  ·simp only [AV.low, lows, netB, List.length_cons, List.length_nil]
   simp
  ·simp only [AV.inS, insS]
   exact ⟨by omega, ⟨trivial, trivial, trivial⟩, trivial⟩
 | false =>
  rw [cond_false] at h2
  obtain ⟨rfl, rfl⟩ := ret_done h2
  refine readsG (c := (bodyOf Try.f8)) Try.func8 (by kernel_rfl) (by kernel_rfl) kk [⟨x, 8, n, f⟩] (fun hp => hvs hp.1) (argsC := [slcV 0 n]) (fun hp => hrep hp.1) (nms := []) (bs := []) (K' := 9) (fun hp => ?_) ?_ ?_ (show g2.H = g.H from kk.1) (show g2.nx = g.nx from kk.2.1) id
  ·refine (of_weak n f (fv hp.1).2).mono fun e fr' H' h => ?_
   have he := of_decide_eq_false hp.2
   obtain ⟨rfl, ⟨c0, s, s', rfl, rfl⟩ | ⟨c0, _⟩⟩ := h
   ·refine ⟨.inl rfl, [.nilp, .agg [.int s .i64 (ofR chkE (rowsE f) n).1, .int s' .i64 (ofR chkE (rowsE f) n).2]], _, rfl, trivial, ?_, rfl, fun i b hb => (by cases hb), List.nodup_nil⟩
    exact AV.ge.tup2 (AV.ge.refl _) (ge_agg2 (AV.ge.int _ _ _ _) (AV.ge.int _ _ _ _))
   ·exact (he c0).elim
  ·simp [AV.low, lows]
  ·simp [AV.inS, insS]


/-- the row of an element that is handed in -/
def zR (e : El) : List AV := [AV.int true .u8 (e).k, .str true (e).n, .str true (e).a, .str true (e).b, .str true (e).c, .str true (e).d, .int true .u64 (((e).v : Nat) : Int), .int true .i64 (e).ph]
def unZ : List AV → El
 | [.int _ _ k, .str _ n, .str _ a, .str _ b, .str _ c, .str _ d, .int _ _ v, .int _ _ ph] => ⟨k, n, a, b, c, d, v.toNat, ph⟩
 | _ => ⟨0, [], [], [], [], [], 0, 0⟩
def rowsZ (f : Nat → List AV) (j : Nat) : El := unZ (f j)
def PZ (n : Nat) (f : Nat → List AV) : Prop := n * 104 ≤ 140737488355328 ∧ ∀ j, j < n → RowGe (f j) (zR (rowsZ f j)) ∧ (rowsZ f j).v < 18446744073709551616


theorem eoA_r0 (n : Nat) (G : Nat → El) : PieceN 1 (Ex.normal) [(0, .slc true false ⟨false, 0, 0, 0⟩ n)] [(0, .cells false 8 n (.fn fun j => [.int true .u8 (El.k (G j)), .str true (El.n (G j)), .str true (El.a (G j)), .str true (El.b (G j)), .str true (El.c (G j)), .str true (El.d (G j)), .int true .u64 (↑(El.v (G j)) : Int), .int true .i64 (El.ph (G j))]))] (piececallE Try.f9 ((nav [0] (bodyOf Try.f9))) (frameOf [.slc true false ⟨false, 0, 0, 0⟩ n] 0 .e) (hpL [(0, .cells false 8 n (.fn fun j => zR (G j)))]) 1 []) := eqn (by kernel_rfl) trivial
theorem eoA (B : Nat) (hB : B ≤ 1) (n i : Nat) (G : Nat → El) : GoesB Try.prog ((nav [0] (bodyOf Try.f9))) Try.f9.ntmps B 1 1 (frameOf [.slc true false ⟨false, 0, 0, 0⟩ n] 0 .e) (hpL [(0, .cells false 8 n (.fn fun j => zR (G j)))]) fun e fr' H' => (e = .normal ∧ fr' = frL [(0, .slc true false ⟨false, 0, 0, 0⟩ n)] ∧ H' = hpL [(0, .cells false 8 n (.fn fun j => [.int true .u8 (El.k (G j)), .str true (El.n (G j)), .str true (El.a (G j)), .str true (El.b (G j)), .str true (El.c (G j)), .str true (El.d (G j)), .int true .u64 (↑(El.v (G j)) : Int), .int true .i64 (El.ph (G j))]))]) := by
 exact (rcE (eoA_r0 n G) hB).mono fun e fr' H' h => h
theorem eoB_r0 (n : Nat) (G : Nat → El) : PieceN 1 (Ex.normal) [(0, .slc true false ⟨false, 0, 0, 0⟩ n), (3, .nils)] [(0, .cells false 8 n (.fn fun j => [.int true .u8 (El.k (G j)), .str true (El.n (G j)), .str true (El.a (G j)), .str true (El.b (G j)), .str true (El.c (G j)), .str true (El.d (G j)), .int true .u64 (↑(El.v (G j)) : Int), .int true .i64 (El.ph (G j))]))] (piececallE Try.f9 ((nav [1,0] (bodyOf Try.f9))) (frL [(0, .slc true false ⟨false, 0, 0, 0⟩ n)]) (hpL [(0, .cells false 8 n (.fn fun j => zR (G j)))]) 1 []) := eqn (by kernel_rfl) trivial
theorem eoB (B : Nat) (hB : B ≤ 1) (n i : Nat) (G : Nat → El) : GoesB Try.prog ((nav [1,0] (bodyOf Try.f9))) Try.f9.ntmps B 1 1 (frL [(0, .slc true false ⟨false, 0, 0, 0⟩ n)]) (hpL [(0, .cells false 8 n (.fn fun j => zR (G j)))]) fun e fr' H' => (e = .normal ∧ fr' = frL [(0, .slc true false ⟨false, 0, 0, 0⟩ n), (3, .nils)] ∧ H' = hpL [(0, .cells false 8 n (.fn fun j => [.int true .u8 (El.k (G j)), .str true (El.n (G j)), .str true (El.a (G j)), .str true (El.b (G j)), .str true (El.c (G j)), .str true (El.d (G j)), .int true .u64 (↑(El.v (G j)) : Int), .int true .i64 (El.ph (G j))]))]) := by
 exact (rcE (eoB_r0 n G) hB).mono fun e fr' H' h => h
theorem eoC_r0 (n i : Nat) (G : Nat → El) : PieceN 2 (Ex.normal) [(0, .slc true false ⟨false, 0, 0, 0⟩ n), (3, .slc true true ⟨false, 1, 0, 0⟩ i), (4, .int false .i64 0)] [(0, .cells false 8 n (.fn fun j => [.int true .u8 (El.k (G j)), .str true (El.n (G j)), .str true (El.a (G j)), .str true (El.b (G j)), .str true (El.c (G j)), .str true (El.d (G j)), .int true .u64 (↑(El.v (G j)) : Int), .int true .i64 (El.ph (G j))])), (1, .cells true 8 i (.fn fun j => (elR (G j))))] (piececallE Try.f9 ((nav [1,1,0,0] (bodyOf Try.f9))) (frL [(0, .slc true false ⟨false, 0, 0, 0⟩ n), (3, .slc true true ⟨false, 1, 0, 0⟩ i)]) (hpL [(0, .cells false 8 n (.fn fun j => zR (G j))), (1, .cells true 8 i (.fn fun j => elR (G j)))]) 2 []) := eqn (by kernel_rfl) trivial
theorem eoC (B : Nat) (hB : B ≤ 2) (n i : Nat) (G : Nat → El) : GoesB Try.prog ((nav [1,1,0,0] (bodyOf Try.f9))) Try.f9.ntmps B 2 2 (frL [(0, .slc true false ⟨false, 0, 0, 0⟩ n), (3, .slc true true ⟨false, 1, 0, 0⟩ i)]) (hpL [(0, .cells false 8 n (.fn fun j => zR (G j))), (1, .cells true 8 i (.fn fun j => elR (G j)))]) fun e fr' H' => (e = .normal ∧ fr' = frL [(0, .slc true false ⟨false, 0, 0, 0⟩ n), (3, .slc true true ⟨false, 1, 0, 0⟩ i), (4, .int false .i64 0)] ∧ H' = hpL [(0, .cells false 8 n (.fn fun j => [.int true .u8 (El.k (G j)), .str true (El.n (G j)), .str true (El.a (G j)), .str true (El.b (G j)), .str true (El.c (G j)), .str true (El.d (G j)), .int true .u64 (↑(El.v (G j)) : Int), .int true .i64 (El.ph (G j))])), (1, .cells true 8 i (.fn fun j => (elR (G j))))]) := by
 exact (rcE (eoC_r0 n i G) hB).mono fun e fr' H' h => h
theorem eoL_r0 (n i : Nat) (G : Nat → El) (c0 : decide ((↑i : Int) < (↑n : Int)) = true) (c1 : (0 : Int) ≤ (↑i : Int)) (c2 : (↑i : Int) < (↑n : Int)) (c3 : (0 : Nat) + i < n) (c4 : (8 : Nat) ≤ (8 : Nat)) (c5 : (0 : Int) ≤ (↑(El.v (G ((0 : Nat) + i))) : Int)) (c6 : (↑(El.v (G ((0 : Nat) + i))) : Int) < (18446744073709551616 : Int)) (c7 : i ≤ i) (c8 : (i + (1 : Nat)) * (104 : Nat) ≤ (140737488355328 : Nat)) (c9 : i + (1 : Nat) ≤ (9223372036854775807 : Nat)) (c10 : (-9223372036854775808 : Int) ≤ (↑i : Int) + (1 : Int)) (c11 : (↑i : Int) + (1 : Int) ≤ (9223372036854775807 : Int)) : PieceN 6 (Ex.normal) [(0, .slc true false ⟨false, 0, 0, 0⟩ n), (3, .slc true true ⟨false, 5, 0, 0⟩ (i + (1 : Nat))), (4, .int true .i64 ((↑i : Int) + (1 : Int)))] [(0, .cells false 8 n (.fn fun j => [.int true .u8 (El.k (G j)), .str true (El.n (G j)), .str true (El.a (G j)), .str true (El.b (G j)), .str true (El.c (G j)), .str true (El.d (G j)), .int true .u64 (↑(El.v (G j)) : Int), .int true .i64 (El.ph (G j))])), (5, .cells true 8 (i + (1 : Nat)) (.fn fun j => bif decide (j < i) then (elR (G j)) else (elR (G ((0 : Nat) + i)))))] (piececallE Try.f9 ((nav [1,1,0,1,0,0] (bodyOf Try.f9))) (frL [(0, .slc true false ⟨false, 0, 0, 0⟩ n), (3, .slc true true ⟨false, 1, 0, 0⟩ i), (4, .int true .i64 (i : Int))]) (hpL [(0, .cells false 8 n (.fn fun j => zR (G j))), (1, .cells true 8 i (.fn fun j => elR (G j)))]) 2 [true]) := eqn (by kernel_rfl) (ai (ai (ai (ai (ai (ai (ai trivial c0) (ai c1 c2)) c3) c4) (ai c5 c6)) (ai c7 (ai c8 c9))) (ai c10 c11))
theorem eoL_r1 (n i : Nat) (G : Nat → El) (c0 : decide ((↑i : Int) < (↑n : Int)) = false) : PieceN 6 (Ex.exit (0 : Nat)) [(0, .slc true false ⟨false, 0, 0, 0⟩ n), (3, .slc true true ⟨false, 1, 0, 0⟩ i), (4, .int true .i64 (↑i : Int))] [(0, .cells false 8 n (.fn fun j => [.int true .u8 (El.k (G j)), .str true (El.n (G j)), .str true (El.a (G j)), .str true (El.b (G j)), .str true (El.c (G j)), .str true (El.d (G j)), .int true .u64 (↑(El.v (G j)) : Int), .int true .i64 (El.ph (G j))])), (1, .cells true 8 i (.fn fun j => (elR (G j))))] (piececallE Try.f9 ((nav [1,1,0,1,0,0] (bodyOf Try.f9))) (frL [(0, .slc true false ⟨false, 0, 0, 0⟩ n), (3, .slc true true ⟨false, 1, 0, 0⟩ i), (4, .int true .i64 (i : Int))]) (hpL [(0, .cells false 8 n (.fn fun j => zR (G j))), (1, .cells true 8 i (.fn fun j => elR (G j)))]) 2 [false]) := eqn (by kernel_rfl) (ai trivial c0)
theorem eoL (B : Nat) (hB : B ≤ 2) (n i : Nat) (G : Nat → El) (x0 : ((decide ((↑i : Int) < (↑n : Int))) = true → ((↑(El.v (G ((0 : Nat) + i))) : Int) < (18446744073709551616 : Int)))) (x1 : ((decide ((↑i : Int) < (↑n : Int))) = true → ((i + (1 : Nat)) * (104 : Nat) ≤ (140737488355328 : Nat)))) (x2 : ((decide ((↑i : Int) < (↑n : Int))) = true → (i + (1 : Nat) ≤ (9223372036854775807 : Nat)))) (x3 : ((decide ((↑i : Int) < (↑n : Int))) = true → ((↑i : Int) + (1 : Int) ≤ (9223372036854775807 : Int)))) : GoesB Try.prog ((nav [1,1,0,1,0,0] (bodyOf Try.f9))) Try.f9.ntmps B 2 6 (frL [(0, .slc true false ⟨false, 0, 0, 0⟩ n), (3, .slc true true ⟨false, 1, 0, 0⟩ i), (4, .int true .i64 (i : Int))]) (hpL [(0, .cells false 8 n (.fn fun j => zR (G j))), (1, .cells true 8 i (.fn fun j => elR (G j)))]) fun e fr' H' => (cond (decide ((↑i : Int) < (↑n : Int))) (e = .normal ∧ fr' = frL [(0, .slc true false ⟨false, 0, 0, 0⟩ n), (3, .slc true true ⟨false, 5, 0, 0⟩ (i + (1 : Nat))), (4, .int true .i64 ((↑i : Int) + (1 : Int)))] ∧ H' = hpL [(0, .cells false 8 n (.fn fun j => [.int true .u8 (El.k (G j)), .str true (El.n (G j)), .str true (El.a (G j)), .str true (El.b (G j)), .str true (El.c (G j)), .str true (El.d (G j)), .int true .u64 (↑(El.v (G j)) : Int), .int true .i64 (El.ph (G j))])), (5, .cells true 8 (i + (1 : Nat)) (.fn fun j => bif decide (j < i) then (elR (G j)) else (elR (G ((0 : Nat) + i)))))]) (e = .exit 0 ∧ fr' = frL [(0, .slc true false ⟨false, 0, 0, 0⟩ n), (3, .slc true true ⟨false, 1, 0, 0⟩ i), (4, .int true .i64 (↑i : Int))] ∧ H' = hpL [(0, .cells false 8 n (.fn fun j => [.int true .u8 (El.k (G j)), .str true (El.n (G j)), .str true (El.a (G j)), .str true (El.b (G j)), .str true (El.c (G j)), .str true (El.d (G j)), .int true .u64 (↑(El.v (G j)) : Int), .int true .i64 (El.ph (G j))])), (1, .cells true 8 i (.fn fun j => (elR (G j))))])) := by
 cases t0 : decide ((↑i : Int) < (↑n : Int)) with
 | true =>
  exact (rcE (eoL_r0 n i G t0 (by first | decide | ((try simp only [decide_eq_true_eq, decide_eq_false_iff_not] at t0); (try simp only [List.length_take, List.length_drop]); omega)) (by first | decide | ((try simp only [decide_eq_true_eq, decide_eq_false_iff_not] at t0); (try simp only [List.length_take, List.length_drop]); omega)) (by first | decide | ((try simp only [decide_eq_true_eq, decide_eq_false_iff_not] at t0); (try simp only [List.length_take, List.length_drop]); omega)) (by first | decide | ((try simp only [decide_eq_true_eq, decide_eq_false_iff_not] at t0); (try simp only [List.length_take, List.length_drop]); omega)) (by first | decide | ((try simp only [decide_eq_true_eq, decide_eq_false_iff_not] at t0); (try simp only [List.length_take, List.length_drop]); omega)) (x0 t0) (by first | decide | ((try simp only [decide_eq_true_eq, decide_eq_false_iff_not] at t0); (try simp only [List.length_take, List.length_drop]); omega)) (x1 t0) (x2 t0) (by first | decide | ((try simp only [decide_eq_true_eq, decide_eq_false_iff_not] at t0); (try simp only [List.length_take, List.length_drop]); omega)) (x3 t0)) hB).mono fun e fr' H' h => by first | (simp only [t0, cond_true, cond_false]; exact h) | (simp only [t0, cond_true, cond_false] at h ⊢; exact h)
 | false =>
  exact (rcE (eoL_r1 n i G t0) hB).mono fun e fr' H' h => by first | (simp only [t0, cond_true, cond_false]; exact h) | (simp only [t0, cond_true, cond_false] at h ⊢; exact h)
theorem eoE_r0 (n : Nat) (G : Nat → El) : PieceN 2 (Ex.ret) [(2, .slc true true ⟨false, 1, 0, 0⟩ n)] [(1, .cells true 8 n (.fn fun j => (elR (G j))))] (piececallE Try.f9 ((nav [1,1,1] (bodyOf Try.f9))) (frL [(0, .slc true false ⟨false, 0, 0, 0⟩ n), (3, .slc true true ⟨false, 1, 0, 0⟩ n)]) (hpL [(0, .cells false 8 n (.fn fun j => zR (G j))), (1, .cells true 8 n (.fn fun j => elR (G j)))]) 2 []) := eqn (by kernel_rfl) trivial
theorem eoE (B : Nat) (hB : B ≤ 2) (n i : Nat) (G : Nat → El) : GoesB Try.prog ((nav [1,1,1] (bodyOf Try.f9))) Try.f9.ntmps B 2 2 (frL [(0, .slc true false ⟨false, 0, 0, 0⟩ n), (3, .slc true true ⟨false, 1, 0, 0⟩ n)]) (hpL [(0, .cells false 8 n (.fn fun j => zR (G j))), (1, .cells true 8 n (.fn fun j => elR (G j)))]) fun e fr' H' => (e = .ret ∧ fr' = frL [(2, .slc true true ⟨false, 1, 0, 0⟩ n)] ∧ H' = hpL [(1, .cells true 8 n (.fn fun j => (elR (G j))))]) := by
 exact (rcE (eoE_r0 n G) hB).mono fun e fr' H' h => h
theorem eo_is : (bodyOf Try.f9) = .seq (nav [0] (bodyOf Try.f9)) (.seq (nav [1,0] (bodyOf Try.f9)) (.seq (.seq (nav [1,1,0,0] (bodyOf Try.f9)) (.block 0 (.loop (nav [1,1,0,1,0,0] (bodyOf Try.f9))))) (nav [1,1,1] (bodyOf Try.f9)))) := by kernel_rfl
theorem eo_step (n i : Nat) (G : Nat → El) (hi : i < n) (hn : n * 104 ≤ 140737488355328) (hv : ∀ j, j < n → (G j).v < 18446744073709551616) :
  GoesB Try.prog (nav [1,1,0,1,0,0] (bodyOf Try.f9)) Try.f9.ntmps 1 2 2 (frL [(0, .slc true false ⟨false, 0, 0, 0⟩ n), (3, .slc true true ⟨false, 1, 0, 0⟩ i), (4, .int true .i64 (i : Int))]) (hpL [(0, .cells false 8 n (.fn fun j => zR (G j))), (1, .cells true 8 i (.fn fun j => elR (G j)))]) (Nm [(0, .slc true false ⟨false, 0, 0, 0⟩ n), (3, .slc true true ⟨false, 1, 0, 0⟩ (i + 1)), (4, .int true .i64 ((i + 1) : Int))] [(0, .cells false 8 n (.fn fun j => zR (G j))), (1, .cells true 8 (i + 1) (.fn fun j => elR (G j)))]) := by
 have w := hv i hi
 refine (eoL 1 (by omega) n i G (fun _ => by rw [Nat.zero_add]; omega) (fun _ => by omega) (fun _ => by omega) (fun _ => by omega)).renG fun e fr' H' h => ?_
 rw [decide_eq_true (by omega), cond_true] at h
 obtain ⟨rfl, rfl, rfl⟩ := h
 exact ⟨sg 1 5, [(0, .slc true false ⟨false, 0, 0, 0⟩ n), (3, .slc true true ⟨false, 1, 0, 0⟩ (i + 1)), (4, .int true .i64 ((i + 1) : Int))], [(0, .cells false 8 n (.fn fun j => zR (G j))), (1, .cells true 8 (i + 1) (.fn fun j => elR (G j)))], sg_low (by omega), ⟨⟨_, rfl, AV.ge.refl _, rfl⟩, ⟨_, rfl, AV.ge.refl _, rfl⟩, ⟨_, rfl, AV.ge.int' _ _ _ (by omega), rfl⟩, trivial⟩, ⟨rgR rfl rfl (fun j _ => rfl) (fun j _ => rfl) (by omega), rgR rfl rfl (fun j hj => by
  show (bif decide (j < i) then elR (G j) else _) = elR (G j)
  by_cases c : j < i
  ·rw [decide_eq_true c, cond_true]
  ·obtain rfl : j = i := by omega
   rw [decide_eq_false c, cond_false]
   simp only [Nat.zero_add]) (fun j _ => rfl) (by omega), trivial⟩, sg_inj (by omega), rfl, rfl, rfl⟩
theorem eo_end (n : Nat) (G : Nat → El) : GoesB Try.prog (nav [1,1,0,1,0,0] (bodyOf Try.f9)) Try.f9.ntmps 1 2 2 (frL [(0, .slc true false ⟨false, 0, 0, 0⟩ n), (3, .slc true true ⟨false, 1, 0, 0⟩ n), (4, .int true .i64 (n : Int))]) (hpL [(0, .cells false 8 n (.fn fun j => zR (G j))), (1, .cells true 8 n (.fn fun j => elR (G j)))]) (Xm 0 [(0, .slc true false ⟨false, 0, 0, 0⟩ n), (3, .slc true true ⟨false, 1, 0, 0⟩ n)] [(0, .cells false 8 n (.fn fun j => zR (G j))), (1, .cells true 8 n (.fn fun j => elR (G j)))]) := by
 refine (eoL 1 (by omega) n n G (fun h => absurd (of_decide_eq_true h) (by omega)) (fun h => absurd (of_decide_eq_true h) (by omega)) (fun h => absurd (of_decide_eq_true h) (by omega)) (fun h => absurd (of_decide_eq_true h) (by omega))).renG fun e fr' H' h => ?_
 rw [decide_eq_false (by omega), cond_false] at h
 obtain ⟨rfl, rfl, rfl⟩ := h
 exact ⟨id, [(0, .slc true false ⟨false, 0, 0, 0⟩ n), (3, .slc true true ⟨false, 1, 0, 0⟩ n)], [(0, .cells false 8 n (.fn fun j => zR (G j))), (1, .cells true 8 n (.fn fun j => elR (G j)))], fun g hg => rfl, ⟨⟨_, rfl, AV.ge.refl _, rfl⟩, ⟨_, rfl, AV.ge.refl _, rfl⟩, trivial⟩, ⟨rgR rfl rfl (fun j _ => rfl) (fun j _ => rfl) (by omega), rgR rfl rfl (fun j _ => rfl) (fun j _ => rfl) (by omega), trivial⟩, fun i j _ _ h => h, rfl, rfl, rfl⟩
theorem eo_goes (n : Nat) (G : Nat → El) (hn : n * 104 ≤ 140737488355328) (hv : ∀ j, j < n → (G j).v < 18446744073709551616) :
  GoesB Try.prog (bodyOf Try.f9) Try.f9.ntmps 1 1 2 (frameOf [.slc true false ⟨false, 0, 0, 0⟩ n] 0 .e) (hpL [(0, .cells false 8 n (.fn fun j => zR (G j)))]) (fun e fr' H' => e = .ret ∧ fr' = frL [(2, .slc true true ⟨false, 1, 0, 0⟩ n)] ∧ H' = hpL [(1, .cells true 8 n (.fn fun j => elR (G j)))]) := by
 rw [eo_is]
 refine GoesB.seqN (K1 := 1) (eoA 1 (by omega) n 0 G) (by omega) ?_
 refine GoesB.seqN (K1 := 1) (F1 := [(0, .slc true false ⟨false, 0, 0, 0⟩ n), (3, .nils)]) (H1 := [(0, .cells false 8 n (.fn fun j => zR (G j)))]) (GoesB.toN (eoB 1 (by omega) n 0 G) ⟨re rfl, re rfl, trivial⟩ ⟨hs rfl, trivial⟩) (by omega) ?_
 refine GoesB.phantom 3 8 (fun j => elR (G j)) rfl (by omega) (by omega) ?_
 refine GoesB.weakL (fl := [(0, .slc true false ⟨false, 0, 0, 0⟩ n), (3, .slc true true ⟨false, 1, 0, 0⟩ 0)]) (bl := [(0, .cells false 8 n (.fn fun j => zR (G j))), (1, .cells true 8 0 (.fn fun j => elR (G j)))]) ⟨re rfl, re rfl, trivial⟩ ⟨hs rfl, hs rfl, trivial⟩ ?_
 refine GoesB.seqN (K1 := 2) (F1 := [(0, .slc true false ⟨false, 0, 0, 0⟩ n), (3, .slc true true ⟨false, 1, 0, 0⟩ n)]) (H1 := [(0, .cells false 8 n (.fn fun j => zR (G j))), (1, .cells true 8 n (.fn fun j => elR (G j)))]) ?_ (by omega) ?_
 ·refine GoesB.seqN (K1 := 2) (F1 := [(0, .slc true false ⟨false, 0, 0, 0⟩ n), (3, .slc true true ⟨false, 1, 0, 0⟩ 0), (4, .int true .i64 ((0 : Nat) : Int))]) (H1 := [(0, .cells false 8 n (.fn fun j => zR (G j))), (1, .cells true 8 0 (.fn fun j => elR (G j)))]) (GoesB.toN (eoC 1 (by omega) n 0 G) ⟨re rfl, re rfl, ⟨_, rfl, AV.ge.int _ _ _ _⟩, trivial⟩ ⟨hs rfl, hs rfl, trivial⟩) (by omega) ?_
  exact GoesB.rounds n (fun i => [(0, .slc true false ⟨false, 0, 0, 0⟩ n), (3, .slc true true ⟨false, 1, 0, 0⟩ i), (4, .int true .i64 (i : Int))]) (fun i => [(0, .cells false 8 n (.fn fun j => zR (G j))), (1, .cells true 8 i (.fn fun j => elR (G j)))]) (fun i hi => eo_step n i G hi hn hv) (eo_end n G)
 exact (eoE 1 (by omega) n 0 G).mono fun e fr' H' h => h
noncomputable def elsS : List AV → M AV
 | [x] => (rd 8 x PZ).andThen fun y => newS 8 y.1 (fun j => elR (rowsZ y.2 j))
 | _ => M.no
theorem elsS_tch : ∀ args, Tch (elsS args) := by
 intro args
 unfold elsS
 split
 ·exact (Tch.rd _ _ _).andThen fun _ => Tch.newS _ _ _
 ·exact Tch.no
theorem elsS_ok : ∀ args v g g', elsS args g = .done v g' → CallIs Try.prog 9 args v g g' := by
 intro args v g g' h
 unfold elsS at h
 split at h
 case h_2 => exact (no_done h).elim
 rename_i x
 obtain ⟨⟨n, f⟩, g1, a1, h1⟩ := done_of h
 clear h
 obtain ⟨qv, kv, fv⟩ := rd_done a1 (by omega)
 dsimp only at h1 fv
 obtain ⟨rfl, e1, e2, e3⟩ := newS_done h1
 rw [kv.1, kv.2.1] at e1
 rw [kv.2.1] at e2 ⊢
 refine readsG (c := (bodyOf Try.f9)) Try.func9 (by kernel_rfl) (by kernel_rfl) kv [⟨x, 8, n, f⟩] (fun hp v hv => by rw [List.mem_singleton.1 hv]; exact (fv hp).1) (argsC := [slcV 0 n]) (fun hp N μ cs hcs => by
  simp only [Reps] at hcs ⊢
  obtain ⟨c, r, rfl, hc, rfl⟩ := hcs
  exact ⟨c, [], rfl, vw_val (l := [⟨x, 8, n, f⟩]) (fv hp).1 rfl hc, rfl⟩) (nms := [1]) (bs := [.cells true 8 n (.fn fun j => elR (rowsZ f j))]) (K' := 2) (fun hp => ?_) ?_ ?_ e1 (by rw [e2]; rfl) (fun hc => by rw [← e3]; exact hc)
 ·obtain ⟨_, hn, hr⟩ := fv hp
  have hg := GoesB.weakG (H0 := hpL [(0, .cells false 8 n (.fn fun j => zR (rowsZ f j)))]) (H := hpL [(0, .cells false 8 n (.fn f))]) (fun t v ht => ⟨v, ht, AV.ge.refl _⟩) (fun i b hb => by
   have hm := hpL_get hb
   simp only [List.mem_cons, List.not_mem_nil, or_false] at hm
   cases hm
   exact ⟨_, rfl, rfl, rfl, rfl, fun j hj => (hr j hj).1⟩) (eo_goes n (rowsZ f) hn (fun j hj => (hr j hj).2))
  refine hg.mono fun e fr' H' h => ?_
  obtain ⟨rfl, rfl, rfl⟩ := h
  refine ⟨.inl rfl, [.slc true true ⟨false, 1, 0, 0⟩ n], _, rfl, trivial, ?_, rfl, ?_, by decide⟩
  ·simp only [AV.ren, AA.ren, getD_sub0]
   exact AV.ge.refl _
  ·intro i b hb
   match i, hb with
   | 0, hb => cases hb; exact ⟨1, _, rfl, rfl, ⟨rfl, rfl, rfl, fun j hj => rfl⟩, rfl, fun j hj v hv => List.all_eq_true.1 (elR_low _ (rowsZ f j)) v hv, fun j hj o v hv => elR_inS hv⟩
 ·exact Nat.ble_eq_true_of_le (show Nat.succ g.nx ≤ g.nx + 1 by omega)
 ·show g.nx ≤ g.nx; omega


theorem const_r0 (k : Int) (c0 : decide (k = (0 : Int)) = true) : PureP (AV.flt false (4607182418800017408 : Nat)) (callE 87 [.int true .i64 k] (G.on [true])) := eqq (q := (True ∧ (decide (k = (0 : Int)) = true))) (by kernel_rfl) ⟨trivial, c0⟩
theorem const_r1 (k : Int) (c0 : decide (k = (0 : Int)) = false) (c1 : decide (k = (1 : Int)) = true) : PureP (AV.raw false (4606875505927962389 : Nat)) (callE 87 [.int true .i64 k] (G.on [false, true])) := eqq (q := ((True ∧ (decide (k = (0 : Int)) = false)) ∧ (decide (k = (1 : Int)) = true))) (by kernel_rfl) ⟨⟨trivial, c0⟩, c1⟩
theorem const_r2 (k : Int) (c0 : decide (k = (0 : Int)) = false) (c1 : decide (k = (1 : Int)) = false) (c2 : decide (k = (2 : Int)) = true) : PureP (AV.raw false (4605975682916830378 : Nat)) (callE 87 [.int true .i64 k] (G.on [false, false, true])) := eqq (q := (((True ∧ (decide (k = (0 : Int)) = false)) ∧ (decide (k = (1 : Int)) = false)) ∧ (decide (k = (2 : Int)) = true))) (by kernel_rfl) ⟨⟨⟨trivial, c0⟩, c1⟩, c2⟩
theorem const_r3 (k : Int) (c0 : decide (k = (0 : Int)) = false) (c1 : decide (k = (1 : Int)) = false) (c2 : decide (k = (2 : Int)) = false) (c3 : decide (k = (3 : Int)) = true) : PureP (AV.raw false (4604544271217802189 : Nat)) (callE 87 [.int true .i64 k] (G.on [false, false, false, true])) := eqq (q := ((((True ∧ (decide (k = (0 : Int)) = false)) ∧ (decide (k = (1 : Int)) = false)) ∧ (decide (k = (2 : Int)) = false)) ∧ (decide (k = (3 : Int)) = true))) (by kernel_rfl) ⟨⟨⟨⟨trivial, c0⟩, c1⟩, c2⟩, c3⟩
theorem const_r4 (k : Int) (c0 : decide (k = (0 : Int)) = false) (c1 : decide (k = (1 : Int)) = false) (c2 : decide (k = (2 : Int)) = false) (c3 : decide (k = (3 : Int)) = false) (c4 : decide (k = (4 : Int)) = true) : PureP (AV.flt false (4602678819172646912 : Nat)) (callE 87 [.int true .i64 k] (G.on [false, false, false, false, true])) := eqq (q := (((((True ∧ (decide (k = (0 : Int)) = false)) ∧ (decide (k = (1 : Int)) = false)) ∧ (decide (k = (2 : Int)) = false)) ∧ (decide (k = (3 : Int)) = false)) ∧ (decide (k = (4 : Int)) = true))) (by kernel_rfl) ⟨⟨⟨⟨⟨trivial, c0⟩, c1⟩, c2⟩, c3⟩, c4⟩
theorem const_r5 (k : Int) (c0 : decide (k = (0 : Int)) = false) (c1 : decide (k = (1 : Int)) = false) (c2 : decide (k = (2 : Int)) = false) (c3 : decide (k = (3 : Int)) = false) (c4 : decide (k = (4 : Int)) = false) (c5 : decide (k = (5 : Int)) = true) : PureP (AV.raw false (4598334089338226320 : Nat)) (callE 87 [.int true .i64 k] (G.on [false, false, false, false, false, true])) := eqq (q := ((((((True ∧ (decide (k = (0 : Int)) = false)) ∧ (decide (k = (1 : Int)) = false)) ∧ (decide (k = (2 : Int)) = false)) ∧ (decide (k = (3 : Int)) = false)) ∧ (decide (k = (4 : Int)) = false)) ∧ (decide (k = (5 : Int)) = true))) (by kernel_rfl) ⟨⟨⟨⟨⟨⟨trivial, c0⟩, c1⟩, c2⟩, c3⟩, c4⟩, c5⟩
theorem const_r6 (k : Int) (c0 : decide (k = (0 : Int)) = false) (c1 : decide (k = (1 : Int)) = false) (c2 : decide (k = (2 : Int)) = false) (c3 : decide (k = (3 : Int)) = false) (c4 : decide (k = (4 : Int)) = false) (c5 : decide (k = (5 : Int)) = false) : PureP (AV.flt false (0 : Nat)) (callE 87 [.int true .i64 k] (G.on [false, false, false, false, false, false])) := eqq (q := ((((((True ∧ (decide (k = (0 : Int)) = false)) ∧ (decide (k = (1 : Int)) = false)) ∧ (decide (k = (2 : Int)) = false)) ∧ (decide (k = (3 : Int)) = false)) ∧ (decide (k = (4 : Int)) = false)) ∧ (decide (k = (5 : Int)) = false))) (by kernel_rfl) ⟨⟨⟨⟨⟨⟨trivial, c0⟩, c1⟩, c2⟩, c3⟩, c4⟩, c5⟩
noncomputable def const_0 (k : Int) : Nat := (bif decide (k = (0 : Int)) then ((4607182418800017408 : Nat)) else (bif decide (k = (1 : Int)) then ((4606875505927962389 : Nat)) else (bif decide (k = (2 : Int)) then ((4605975682916830378 : Nat)) else (bif decide (k = (3 : Int)) then ((4604544271217802189 : Nat)) else (bif decide (k = (4 : Int)) then ((4602678819172646912 : Nat)) else (bif decide (k = (5 : Int)) then ((4598334089338226320 : Nat)) else ((0 : Nat))))))))
noncomputable def constS : List AV → M AV
 | [.int s0 .i64 k] => M.ret (AV.flt s0 (const_0 k))
 | args => callE 87 args
theorem constS_ok : ∀ args v g g', constS args g = .done v g' → CallIs Try.prog 87 args v g g' := by
 intro args v g g' h
 unfold constS at h
 split at h
 ·rename_i s0 k
  obtain ⟨rfl, rfl⟩ := ret_done h
  refine scal callE_ok fun μ cargs ha => ?_
  have ha' : Reps 0 MM.none [.int true .i64 k] cargs.toList := by simpa only [Reps, Rep] using ha
  cases t0 : decide (k = (0 : Int)) with
  | true =>
   exact ⟨_, _, _, ha', const_r0 k t0, rfl, fun cv hc => by have := hc g.nx μ; have e0 : const_0 k = ((4607182418800017408 : Nat)) := (ct t0).trans (rfl); rw [e0]; (first | simpa only [AV.fl, AV.fl1, Rep, Reps, Rep_cmpB] using this.fl | (have h2 := this.fl; simp only [AV.fl, AV.fl1, Rep] at h2 ⊢; obtain ⟨b, e, q, l⟩ := h2; exact ⟨b, e, q.trans (by kernel_rfl), l⟩))⟩
  | false =>
   cases t1 : decide (k = (1 : Int)) with
   | true =>
    exact ⟨_, _, _, ha', const_r1 k t0 t1, rfl, fun cv hc => by have := hc g.nx μ; have e0 : const_0 k = ((4606875505927962389 : Nat)) := (cf t0).trans ((ct t1).trans (rfl)); rw [e0]; (first | simpa only [AV.fl, AV.fl1, Rep, Reps, Rep_cmpB] using this.fl | (have h2 := this.fl; simp only [AV.fl, AV.fl1, Rep] at h2 ⊢; obtain ⟨b, e, q, l⟩ := h2; exact ⟨b, e, q.trans (by kernel_rfl), l⟩))⟩
   | false =>
    cases t2 : decide (k = (2 : Int)) with
    | true =>
     exact ⟨_, _, _, ha', const_r2 k t0 t1 t2, rfl, fun cv hc => by have := hc g.nx μ; have e0 : const_0 k = ((4605975682916830378 : Nat)) := (cf t0).trans ((cf t1).trans ((ct t2).trans (rfl))); rw [e0]; (first | simpa only [AV.fl, AV.fl1, Rep, Reps, Rep_cmpB] using this.fl | (have h2 := this.fl; simp only [AV.fl, AV.fl1, Rep] at h2 ⊢; obtain ⟨b, e, q, l⟩ := h2; exact ⟨b, e, q.trans (by kernel_rfl), l⟩))⟩
    | false =>
     cases t3 : decide (k = (3 : Int)) with
     | true =>
      exact ⟨_, _, _, ha', const_r3 k t0 t1 t2 t3, rfl, fun cv hc => by have := hc g.nx μ; have e0 : const_0 k = ((4604544271217802189 : Nat)) := (cf t0).trans ((cf t1).trans ((cf t2).trans ((ct t3).trans (rfl)))); rw [e0]; (first | simpa only [AV.fl, AV.fl1, Rep, Reps, Rep_cmpB] using this.fl | (have h2 := this.fl; simp only [AV.fl, AV.fl1, Rep] at h2 ⊢; obtain ⟨b, e, q, l⟩ := h2; exact ⟨b, e, q.trans (by kernel_rfl), l⟩))⟩
     | false =>
      cases t4 : decide (k = (4 : Int)) with
      | true =>
       exact ⟨_, _, _, ha', const_r4 k t0 t1 t2 t3 t4, rfl, fun cv hc => by have := hc g.nx μ; have e0 : const_0 k = ((4602678819172646912 : Nat)) := (cf t0).trans ((cf t1).trans ((cf t2).trans ((cf t3).trans ((ct t4).trans (rfl))))); rw [e0]; (first | simpa only [AV.fl, AV.fl1, Rep, Reps, Rep_cmpB] using this.fl | (have h2 := this.fl; simp only [AV.fl, AV.fl1, Rep] at h2 ⊢; obtain ⟨b, e, q, l⟩ := h2; exact ⟨b, e, q.trans (by kernel_rfl), l⟩))⟩
      | false =>
       cases t5 : decide (k = (5 : Int)) with
       | true =>
        exact ⟨_, _, _, ha', const_r5 k t0 t1 t2 t3 t4 t5, rfl, fun cv hc => by have := hc g.nx μ; have e0 : const_0 k = ((4598334089338226320 : Nat)) := (cf t0).trans ((cf t1).trans ((cf t2).trans ((cf t3).trans ((cf t4).trans ((ct t5).trans (rfl)))))); rw [e0]; (first | simpa only [AV.fl, AV.fl1, Rep, Reps, Rep_cmpB] using this.fl | (have h2 := this.fl; simp only [AV.fl, AV.fl1, Rep] at h2 ⊢; obtain ⟨b, e, q, l⟩ := h2; exact ⟨b, e, q.trans (by kernel_rfl), l⟩))⟩
       | false =>
        exact ⟨_, _, _, ha', const_r6 k t0 t1 t2 t3 t4 t5, rfl, fun cv hc => by have := hc g.nx μ; have e0 : const_0 k = ((0 : Nat)) := (cf t0).trans ((cf t1).trans ((cf t2).trans ((cf t3).trans ((cf t4).trans ((cf t5).trans (rfl)))))); rw [e0]; (first | simpa only [AV.fl, AV.fl1, Rep, Reps, Rep_cmpB] using this.fl | (have h2 := this.fl; simp only [AV.fl, AV.fl1, Rep] at h2 ⊢; obtain ⟨b, e, q, l⟩ := h2; exact ⟨b, e, q.trans (by kernel_rfl), l⟩))⟩
 ·exact callE_ok _ _ _ _ _ h
theorem constS_tch : ∀ args, Tch (constS args) := by
 intro args
 unfold constS
 split
 ·exact Tch.ret _
 ·exact callE_tch _ _
noncomputable def gamC : Known := kc 37 ofBits (kc 72 toBits (kc 80 smallS (kc 61 kindS (kc 58 rowOfS (kc 81 ofS (kc 59 nameS (kc 60 nodeS (kc 33 chkS (kc 87 constS (kn))))))))))
theorem gamC_ok : KnownOk Try.prog gamC := kc_ok ((ofBits_is Try.prog).callIs Try.func37 (by kernel_rfl) (by kernel_rfl) (by kernel_rfl) (by kernel_rfl)) (kc_ok ((toBits_is Try.prog).callIs Try.func72 (by kernel_rfl) (by kernel_rfl) (by kernel_rfl) (by kernel_rfl)) (kc_ok smallS_ok (kc_ok kindS_ok (kc_ok rowOfS_ok (kc_ok ofS_ok (kc_ok nameS_ok (kc_ok nodeS_ok (kc_ok chkS_ok (kc_ok constS_ok (kn_ok))))))))))
theorem gamC_tch : KnownT gamC := kc_tch Tch.ofBits (kc_tch Tch.toBits (kc_tch smallS_tch (kc_tch kindS_tch (kc_tch rowOfS_tch (kc_tch ofS_tch (kc_tch nameS_tch (kc_tch nodeS_tch (kc_tch chkS_tch (kc_tch constS_tch (kn_tch))))))))))
noncomputable def callC : Calls' := Sx.runN Try.prog gamC (regionC Try.prog) 1000 50
theorem callC_ok : CallOk Try.prog callC := engineC gamC_ok gamC_tch (by kernel_rfl) (by kernel_rfl) 1000 50
theorem callC_tch : CallT callC := runA_tch gamC_tch (fun _ _ _ h => by cases h) (fun call hc n l fr => regionC_tch hc n l fr) 50
theorem cos_r0 (k : Int) (c0 : decide ((17 : Int) < k) = true) (c1 : (-9223372036854775808 : Int) ≤ (24 : Int) - k) (c2 : (24 : Int) - k ≤ (9223372036854775807 : Int)) : PureP (AV.flt true (const_0 ((24 : Int) - k))) (callC 86 [.int true .i64 k] (G.on [true])) := eqq (q := ((True ∧ (decide ((17 : Int) < k) = true)) ∧ (((-9223372036854775808 : Int) ≤ (24 : Int) - k) ∧ ((24 : Int) - k ≤ (9223372036854775807 : Int))))) (by kernel_rfl) ⟨⟨trivial, c0⟩, ⟨c1, c2⟩⟩
theorem cos_r1 (k : Int) (c0 : decide ((17 : Int) < k) = false) (c1 : decide ((12 : Int) < k) = true) (c2 : (-9223372036854775808 : Int) ≤ k - (12 : Int)) (c3 : k - (12 : Int) ≤ (9223372036854775807 : Int)) : PureP (AV.flt true (fneg (const_0 (k - (12 : Int))))) (callC 86 [.int true .i64 k] (G.on [false, true])) := eqq (q := (((True ∧ (decide ((17 : Int) < k) = false)) ∧ (decide ((12 : Int) < k) = true)) ∧ (((-9223372036854775808 : Int) ≤ k - (12 : Int)) ∧ (k - (12 : Int) ≤ (9223372036854775807 : Int))))) (by kernel_rfl) ⟨⟨⟨trivial, c0⟩, c1⟩, ⟨c2, c3⟩⟩
theorem cos_r2 (k : Int) (c0 : decide ((17 : Int) < k) = false) (c1 : decide ((12 : Int) < k) = false) (c2 : decide ((6 : Int) < k) = true) (c3 : (-9223372036854775808 : Int) ≤ (12 : Int) - k) (c4 : (12 : Int) - k ≤ (9223372036854775807 : Int)) : PureP (AV.flt true (fneg (const_0 ((12 : Int) - k)))) (callC 86 [.int true .i64 k] (G.on [false, false, true])) := eqq (q := ((((True ∧ (decide ((17 : Int) < k) = false)) ∧ (decide ((12 : Int) < k) = false)) ∧ (decide ((6 : Int) < k) = true)) ∧ (((-9223372036854775808 : Int) ≤ (12 : Int) - k) ∧ ((12 : Int) - k ≤ (9223372036854775807 : Int))))) (by kernel_rfl) ⟨⟨⟨⟨trivial, c0⟩, c1⟩, c2⟩, ⟨c3, c4⟩⟩
theorem cos_r3 (k : Int) (c0 : decide ((17 : Int) < k) = false) (c1 : decide ((12 : Int) < k) = false) (c2 : decide ((6 : Int) < k) = false) : PureP (AV.flt true (const_0 k)) (callC 86 [.int true .i64 k] (G.on [false, false, false])) := eqq (q := (((True ∧ (decide ((17 : Int) < k) = false)) ∧ (decide ((12 : Int) < k) = false)) ∧ (decide ((6 : Int) < k) = false))) (by kernel_rfl) ⟨⟨⟨trivial, c0⟩, c1⟩, c2⟩
noncomputable def cos_0 (k : Int) : Nat := (bif decide ((17 : Int) < k) then (const_0 ((24 : Int) - k)) else (bif decide ((12 : Int) < k) then (fneg (const_0 (k - (12 : Int)))) else (bif decide ((6 : Int) < k) then (fneg (const_0 ((12 : Int) - k))) else (const_0 k))))
noncomputable def cosS : List AV → M AV
 | [.int s0 .i64 k] => (M.req (((decide ((17 : Int) < k)) = true → ((-9223372036854775808 : Int) ≤ (24 : Int) - k)))).andThen fun _ => M.ret (AV.flt s0 (cos_0 k))
 | args => callC 86 args
theorem cosS_ok : ∀ args v g g', cosS args g = .done v g' → CallIs Try.prog 86 args v g g' := by
 intro args v g g' h
 unfold cosS at h
 split at h
 ·rename_i s0 k
  obtain ⟨_, g1, a1, h1⟩ := done_of h
  obtain ⟨rfl, rfl⟩ := ret_done h1
  refine scalK callC_ok (req_done a1) fun hp μ cargs ha => ?_
  have ha' : Reps 0 MM.none [.int true .i64 k] cargs.toList := by simpa only [Reps, Rep] using ha
  cases t0 : decide ((17 : Int) < k) with
  | true =>
   exact ⟨_, _, _, ha', cos_r0 k t0 (hp t0) (by first | ((try simp only [decide_eq_true_eq, decide_eq_false_iff_not] at t0); (try simp only [List.length_take, List.length_drop]); omega) | decide | (have hp' := hp; simp_all; try omega)), rfl, fun cv hc => by have := hc g.nx μ; have e0 : cos_0 k = (const_0 ((24 : Int) - k)) := (ct t0).trans (rfl); rw [e0]; simpa only [Rep, Reps, Rep_cmpB] using this⟩
  | false =>
   cases t1 : decide ((12 : Int) < k) with
   | true =>
    exact ⟨_, _, _, ha', cos_r1 k t0 t1 (by first | ((try simp only [decide_eq_true_eq, decide_eq_false_iff_not] at t0 t1); (try simp only [List.length_take, List.length_drop]); omega) | decide | (have hp' := hp; simp_all; try omega)) (by first | ((try simp only [decide_eq_true_eq, decide_eq_false_iff_not] at t0 t1); (try simp only [List.length_take, List.length_drop]); omega) | decide | (have hp' := hp; simp_all; try omega)), rfl, fun cv hc => by have := hc g.nx μ; have e0 : cos_0 k = (fneg (const_0 (k - (12 : Int)))) := (cf t0).trans ((ct t1).trans (rfl)); rw [e0]; simpa only [Rep, Reps, Rep_cmpB] using this⟩
   | false =>
    cases t2 : decide ((6 : Int) < k) with
    | true =>
     exact ⟨_, _, _, ha', cos_r2 k t0 t1 t2 (by first | ((try simp only [decide_eq_true_eq, decide_eq_false_iff_not] at t0 t1 t2); (try simp only [List.length_take, List.length_drop]); omega) | decide | (have hp' := hp; simp_all; try omega)) (by first | ((try simp only [decide_eq_true_eq, decide_eq_false_iff_not] at t0 t1 t2); (try simp only [List.length_take, List.length_drop]); omega) | decide | (have hp' := hp; simp_all; try omega)), rfl, fun cv hc => by have := hc g.nx μ; have e0 : cos_0 k = (fneg (const_0 ((12 : Int) - k))) := (cf t0).trans ((cf t1).trans ((ct t2).trans (rfl))); rw [e0]; simpa only [Rep, Reps, Rep_cmpB] using this⟩
    | false =>
     exact ⟨_, _, _, ha', cos_r3 k t0 t1 t2, rfl, fun cv hc => by have := hc g.nx μ; have e0 : cos_0 k = (const_0 k) := (cf t0).trans ((cf t1).trans ((cf t2).trans (rfl))); rw [e0]; simpa only [Rep, Reps, Rep_cmpB] using this⟩
 ·exact callC_ok _ _ _ _ _ h
theorem cosS_tch : ∀ args, Tch (cosS args) := by
 intro args
 unfold cosS
 split
 ·exact (Tch.req _).andThen fun _ => Tch.ret _
 ·exact callC_tch _ _
noncomputable def gamD : Known := kc 37 ofBits (kc 72 toBits (kc 80 smallS (kc 61 kindS (kc 58 rowOfS (kc 81 ofS (kc 59 nameS (kc 60 nodeS (kc 33 chkS (kc 87 constS (kc 86 cosS (kn)))))))))))
theorem gamD_ok : KnownOk Try.prog gamD := kc_ok ((ofBits_is Try.prog).callIs Try.func37 (by kernel_rfl) (by kernel_rfl) (by kernel_rfl) (by kernel_rfl)) (kc_ok ((toBits_is Try.prog).callIs Try.func72 (by kernel_rfl) (by kernel_rfl) (by kernel_rfl) (by kernel_rfl)) (kc_ok smallS_ok (kc_ok kindS_ok (kc_ok rowOfS_ok (kc_ok ofS_ok (kc_ok nameS_ok (kc_ok nodeS_ok (kc_ok chkS_ok (kc_ok constS_ok (kc_ok cosS_ok (kn_ok)))))))))))
theorem gamD_tch : KnownT gamD := kc_tch Tch.ofBits (kc_tch Tch.toBits (kc_tch smallS_tch (kc_tch kindS_tch (kc_tch rowOfS_tch (kc_tch ofS_tch (kc_tch nameS_tch (kc_tch nodeS_tch (kc_tch chkS_tch (kc_tch constS_tch (kc_tch cosS_tch (kn_tch)))))))))))
noncomputable def callD : Calls' := Sx.runN Try.prog gamD (regionC Try.prog) 1000 50
theorem callD_ok : CallOk Try.prog callD := engineC gamD_ok gamD_tch (by kernel_rfl) (by kernel_rfl) 1000 50
theorem tm_b (k : Int) : -24 < Int.tmod k 24 ∧ Int.tmod k 24 < 24 := ⟨by have := Int.lt_tmod_of_pos k (show (0:Int) < 24 by decide); omega, Int.tmod_lt_of_pos k (by decide)⟩
theorem root_r0 (k : Int) (c0 : (24 : Int) ≠ (0 : Int)) (c1 : (-9223372036854775808 : Int) ≤ Int.tmod k (24 : Int) + (24 : Int)) (c2 : Int.tmod k (24 : Int) + (24 : Int) ≤ (9223372036854775807 : Int)) (c3 : decide ((17 : Int) < Int.tmod (Int.tmod k (24 : Int) + (24 : Int)) (24 : Int)) = true → (-9223372036854775808 : Int) ≤ (24 : Int) - Int.tmod (Int.tmod k (24 : Int) + (24 : Int)) (24 : Int)) (c4 : (-9223372036854775808 : Int) ≤ Int.tmod (Int.tmod k (24 : Int) + (24 : Int)) (24 : Int) + (18 : Int)) (c5 : Int.tmod (Int.tmod k (24 : Int) + (24 : Int)) (24 : Int) + (18 : Int) ≤ (9223372036854775807 : Int)) (c6 : decide ((17 : Int) < Int.tmod (Int.tmod (Int.tmod k (24 : Int) + (24 : Int)) (24 : Int) + (18 : Int)) (24 : Int)) = true → (-9223372036854775808 : Int) ≤ (24 : Int) - Int.tmod (Int.tmod (Int.tmod k (24 : Int) + (24 : Int)) (24 : Int) + (18 : Int)) (24 : Int)) : PureP (AV.cpx true (cos_0 (Int.tmod (Int.tmod k (24 : Int) + (24 : Int)) (24 : Int))) (cos_0 (Int.tmod (Int.tmod (Int.tmod k (24 : Int) + (24 : Int)) (24 : Int) + (18 : Int)) (24 : Int)))) (callD 84 [.int true .i64 k] (G.on [])) := eqq (q := (((((((True ∧ ((24 : Int) ≠ (0 : Int))) ∧ (((-9223372036854775808 : Int) ≤ Int.tmod k (24 : Int) + (24 : Int)) ∧ (Int.tmod k (24 : Int) + (24 : Int) ≤ (9223372036854775807 : Int)))) ∧ ((24 : Int) ≠ (0 : Int))) ∧ (decide ((17 : Int) < Int.tmod (Int.tmod k (24 : Int) + (24 : Int)) (24 : Int)) = true → (-9223372036854775808 : Int) ≤ (24 : Int) - Int.tmod (Int.tmod k (24 : Int) + (24 : Int)) (24 : Int))) ∧ (((-9223372036854775808 : Int) ≤ Int.tmod (Int.tmod k (24 : Int) + (24 : Int)) (24 : Int) + (18 : Int)) ∧ (Int.tmod (Int.tmod k (24 : Int) + (24 : Int)) (24 : Int) + (18 : Int) ≤ (9223372036854775807 : Int)))) ∧ ((24 : Int) ≠ (0 : Int))) ∧ (decide ((17 : Int) < Int.tmod (Int.tmod (Int.tmod k (24 : Int) + (24 : Int)) (24 : Int) + (18 : Int)) (24 : Int)) = true → (-9223372036854775808 : Int) ≤ (24 : Int) - Int.tmod (Int.tmod (Int.tmod k (24 : Int) + (24 : Int)) (24 : Int) + (18 : Int)) (24 : Int)))) (by kernel_rfl) ⟨⟨⟨⟨⟨⟨⟨trivial, c0⟩, ⟨c1, c2⟩⟩, c0⟩, c3⟩, ⟨c4, c5⟩⟩, c0⟩, c6⟩
noncomputable def rootS : List AV → M AV
 | [.int s0 .i64 k] => (M.req (((-9223372036854775808 : Int) ≤ Int.tmod k (24 : Int) + (24 : Int)) ∧ (Int.tmod k (24 : Int) + (24 : Int) ≤ (9223372036854775807 : Int)) ∧ (decide ((17 : Int) < Int.tmod (Int.tmod k (24 : Int) + (24 : Int)) (24 : Int)) = true → (-9223372036854775808 : Int) ≤ (24 : Int) - Int.tmod (Int.tmod k (24 : Int) + (24 : Int)) (24 : Int)) ∧ ((-9223372036854775808 : Int) ≤ Int.tmod (Int.tmod k (24 : Int) + (24 : Int)) (24 : Int) + (18 : Int)) ∧ (Int.tmod (Int.tmod k (24 : Int) + (24 : Int)) (24 : Int) + (18 : Int) ≤ (9223372036854775807 : Int)) ∧ (decide ((17 : Int) < Int.tmod (Int.tmod (Int.tmod k (24 : Int) + (24 : Int)) (24 : Int) + (18 : Int)) (24 : Int)) = true → (-9223372036854775808 : Int) ≤ (24 : Int) - Int.tmod (Int.tmod (Int.tmod k (24 : Int) + (24 : Int)) (24 : Int) + (18 : Int)) (24 : Int)))).andThen fun _ => M.ret (AV.cpx s0 (cos_0 (Int.tmod (Int.tmod k (24 : Int) + (24 : Int)) (24 : Int))) (cos_0 (Int.tmod (Int.tmod (Int.tmod k (24 : Int) + (24 : Int)) (24 : Int) + (18 : Int)) (24 : Int))))
 | args => callD 84 args
theorem rootS_ok : ∀ args v g g', rootS args g = .done v g' → CallIs Try.prog 84 args v g g' := by
 intro args v g g' h
 unfold rootS at h
 split at h
 ·rename_i s0 k
  obtain ⟨_, g1, a1, h1⟩ := done_of h
  obtain ⟨rfl, rfl⟩ := ret_done h1
  refine scalK callD_ok (req_done a1) fun hp μ cargs ha => ?_
  have ha' : Reps 0 MM.none [.int true .i64 k] cargs.toList := by simpa only [Reps, Rep] using ha
  exact ⟨_, _, _, ha', root_r0 k (by first | omega | decide | (have hp' := hp; simp_all; try omega)) (hp.1) (hp.2.1) (hp.2.2.1) (hp.2.2.2.1) (hp.2.2.2.2.1) (hp.2.2.2.2.2), rfl, fun cv hc => by have := hc g.nx μ; simpa only [Rep, Reps, Rep_cmpB] using this⟩
 ·exact callD_ok _ _ _ _ _ h
noncomputable def root2S : List AV → M AV
 | [.int s .i64 k] => M.ret (AV.cpx s (cos_0 (Int.tmod (Int.tmod k 24 + 24) 24)) (cos_0 (Int.tmod (Int.tmod (Int.tmod k 24 + 24) 24 + 18) 24)))
 | _ => M.no
theorem root2S_ok : ∀ args v g g', root2S args g = .done v g' → CallIs Try.prog 84 args v g g' := by
 intro args v g g' h
 unfold root2S at h
 split at h
 ·rename_i s k
  obtain ⟨rfl, rfl⟩ := ret_done h
  have hS := rootS_ok [.int s .i64 k] (AV.cpx s (cos_0 (Int.tmod (Int.tmod k 24 + 24) 24)) (cos_0 (Int.tmod (Int.tmod (Int.tmod k 24 + 24) 24 + 18) 24))) g _ rfl
  refine ⟨id, fun hc μ w cargs hg ha => ?_⟩
  refine (hS.2 ⟨hc, (by have h1 := tm_b k; have h2 := tm_b (Int.tmod k 24 + 24); have h3 := tm_b (Int.tmod (Int.tmod k 24 + 24) 24 + 18); simp only [decide_eq_true_eq]; omega)⟩ μ w cargs hg ha).mono fun cv w' hA => ?_
  obtain ⟨μ', e1, e2, e3⟩ := hA
  exact ⟨μ', e1, e2, e3.swap rfl rfl rfl rfl⟩
 ·exact (no_done h).elim
theorem root2S_tch : ∀ args, Tch (root2S args) := by
 intro args
 unfold root2S
 split
 ·exact Tch.ret _
 ·exact Tch.no
noncomputable def gamR : Known := kc 37 ofBits (kc 72 toBits (kc 80 smallS (kc 61 kindS (kc 58 rowOfS (kc 81 ofS (kc 59 nameS (kc 60 nodeS (kc 33 chkS (kc 87 constS (kc 86 cosS (kc 84 root2S (kn))))))))))))
theorem gamR_ok : KnownOk Try.prog gamR := kc_ok ((ofBits_is Try.prog).callIs Try.func37 (by kernel_rfl) (by kernel_rfl) (by kernel_rfl) (by kernel_rfl)) (kc_ok ((toBits_is Try.prog).callIs Try.func72 (by kernel_rfl) (by kernel_rfl) (by kernel_rfl) (by kernel_rfl)) (kc_ok smallS_ok (kc_ok kindS_ok (kc_ok rowOfS_ok (kc_ok ofS_ok (kc_ok nameS_ok (kc_ok nodeS_ok (kc_ok chkS_ok (kc_ok constS_ok (kc_ok cosS_ok (kc_ok root2S_ok (kn_ok))))))))))))
theorem gamR_tch : KnownT gamR := kc_tch Tch.ofBits (kc_tch Tch.toBits (kc_tch smallS_tch (kc_tch kindS_tch (kc_tch rowOfS_tch (kc_tch ofS_tch (kc_tch nameS_tch (kc_tch nodeS_tch (kc_tch chkS_tch (kc_tch constS_tch (kc_tch cosS_tch (kc_tch root2S_tch (kn_tch))))))))))))
noncomputable def callR : Calls' := Sx.runN Try.prog gamR (regionC Try.prog) 1000 50
theorem callR_ok : CallOk Try.prog callR := engineC gamR_ok gamR_tch (by kernel_rfl) (by kernel_rfl) 1000 50
theorem callR_tch : CallT callR := runA_tch gamR_tch (fun _ _ _ h => by cases h) (fun call hc n l fr => regionC_tch hc n l fr) 50
theorem ph_r0 (k : Int) (n a b c d : List UInt8) (v : Nat) (ph : Int) (c0 : (!decide (chk_0 k n a b c d v ph = (0 : Int))) = false) (c1 : (!decide (k = (4 : Int))) = false) : PureP (AV.tup [AV.cpx true (fmul (cn v) (cos_0 (Int.tmod (Int.tmod ph (24 : Int) + (24 : Int)) (24 : Int)))) (fmul (cn v) (cos_0 (Int.tmod (Int.tmod (Int.tmod ph (24 : Int) + (24 : Int)) (24 : Int) + (18 : Int)) (24 : Int)))), AV.int false .i64 0]) (callR 66 [.agg [.int true .u8 k, .str true n, .str true a, .str true b, .str true c, .str true d, .raw true v, .int true .i64 ph]] (G.on [false, false])) := eqq (q := ((True ∧ ((!decide (chk_0 k n a b c d v ph = (0 : Int))) = false)) ∧ ((!decide (k = (4 : Int))) = false))) (by kernel_rfl) ⟨⟨trivial, c0⟩, c1⟩
theorem ph_r1 (k : Int) (n a b c d : List UInt8) (v : Nat) (ph : Int) (c0 : (!decide (chk_0 k n a b c d v ph = (0 : Int))) = false) (c1 : (!decide (k = (4 : Int))) = true) (c2 : (!decide (k = (5 : Int))) = false) : PureP (AV.tup [AV.cpx true (fmul (cn v) (cos_0 (Int.tmod (Int.tmod ph (24 : Int) + (24 : Int)) (24 : Int)))) (fmul (cn v) (cos_0 (Int.tmod (Int.tmod (Int.tmod ph (24 : Int) + (24 : Int)) (24 : Int) + (18 : Int)) (24 : Int)))), AV.int false .i64 0]) (callR 66 [.agg [.int true .u8 k, .str true n, .str true a, .str true b, .str true c, .str true d, .raw true v, .int true .i64 ph]] (G.on [false, true, false])) := eqq (q := (((True ∧ ((!decide (chk_0 k n a b c d v ph = (0 : Int))) = false)) ∧ ((!decide (k = (4 : Int))) = true)) ∧ ((!decide (k = (5 : Int))) = false))) (by kernel_rfl) ⟨⟨⟨trivial, c0⟩, c1⟩, c2⟩
theorem ph_r2 (k : Int) (n a b c d : List UInt8) (v : Nat) (ph : Int) (c0 : (!decide (chk_0 k n a b c d v ph = (0 : Int))) = false) (c1 : (!decide (k = (4 : Int))) = true) (c2 : (!decide (k = (5 : Int))) = true) : PureP (AV.tup [AV.cpx false (0 : Nat) (0 : Nat), AV.int false .i64 2]) (callR 66 [.agg [.int true .u8 k, .str true n, .str true a, .str true b, .str true c, .str true d, .raw true v, .int true .i64 ph]] (G.on [false, true, true])) := eqq (q := (((True ∧ ((!decide (chk_0 k n a b c d v ph = (0 : Int))) = false)) ∧ ((!decide (k = (4 : Int))) = true)) ∧ ((!decide (k = (5 : Int))) = true))) (by kernel_rfl) ⟨⟨⟨trivial, c0⟩, c1⟩, c2⟩
theorem ph_r3 (k : Int) (n a b c d : List UInt8) (v : Nat) (ph : Int) (c0 : (!decide (chk_0 k n a b c d v ph = (0 : Int))) = true) : PureP (AV.tup [AV.cpx false (0 : Nat) (0 : Nat), AV.int true .i64 (chk_0 k n a b c d v ph)]) (callR 66 [.agg [.int true .u8 k, .str true n, .str true a, .str true b, .str true c, .str true d, .raw true v, .int true .i64 ph]] (G.on [true])) := eqq (q := (True ∧ ((!decide (chk_0 k n a b c d v ph = (0 : Int))) = true))) (by kernel_rfl) ⟨trivial, c0⟩
noncomputable def ph_0 (k : Int) (n a b c d : List UInt8) (v : Nat) (ph : Int) : Nat := (bif decide (chk_0 k n a b c d v ph = (0 : Int)) then (bif decide (k = (4 : Int)) then (fmul (cn v) (cos_0 (Int.tmod (Int.tmod ph (24 : Int) + (24 : Int)) (24 : Int)))) else (bif decide (k = (5 : Int)) then (fmul (cn v) (cos_0 (Int.tmod (Int.tmod ph (24 : Int) + (24 : Int)) (24 : Int)))) else ((0 : Nat)))) else ((0 : Nat)))
noncomputable def ph_1 (k : Int) (n a b c d : List UInt8) (v : Nat) (ph : Int) : Nat := (bif decide (chk_0 k n a b c d v ph = (0 : Int)) then (bif decide (k = (4 : Int)) then (fmul (cn v) (cos_0 (Int.tmod (Int.tmod (Int.tmod ph (24 : Int) + (24 : Int)) (24 : Int) + (18 : Int)) (24 : Int)))) else (bif decide (k = (5 : Int)) then (fmul (cn v) (cos_0 (Int.tmod (Int.tmod (Int.tmod ph (24 : Int) + (24 : Int)) (24 : Int) + (18 : Int)) (24 : Int)))) else ((0 : Nat)))) else ((0 : Nat)))
noncomputable def ph_2 (k : Int) (n a b c d : List UInt8) (v : Nat) (ph : Int) : Int := (bif decide (chk_0 k n a b c d v ph = (0 : Int)) then (bif decide (k = (4 : Int)) then ((0 : Int)) else (bif decide (k = (5 : Int)) then ((0 : Int)) else ((2 : Int)))) else (chk_0 k n a b c d v ph))
noncomputable def phS : List AV → M AV
 | [.agg [.int s0 .u8 k, .str s1 n, .str s2 a, .str s3 b, .str s4 c, .str s5 d, .raw s6 v, .int s7 .i64 ph]] => M.ret (AV.tup [AV.cpx (Bool.or s0 (Bool.or s1 (Bool.or s2 (Bool.or s3 (Bool.or s4 (Bool.or s5 (Bool.or s6 s7))))))) (ph_0 k n a b c d v ph) (ph_1 k n a b c d v ph), AV.int (Bool.or s0 (Bool.or s1 (Bool.or s2 (Bool.or s3 (Bool.or s4 (Bool.or s5 (Bool.or s6 s7))))))) (IntKind.i64) (ph_2 k n a b c d v ph)])
 | args => callR 66 args
theorem phS_ok : ∀ args v g g', phS args g = .done v g' → CallIs Try.prog 66 args v g g' := by
 intro args v g g' h
 unfold phS at h
 split at h
 ·rename_i s0 k s1 n s2 a s3 b s4 c s5 d s6 v s7 ph
  obtain ⟨rfl, rfl⟩ := ret_done h
  refine scal callR_ok fun μ cargs ha => ?_
  have ha' : Reps 0 MM.none [.agg [.int true .u8 k, .str true n, .str true a, .str true b, .str true c, .str true d, .raw true v, .int true .i64 ph]] cargs.toList := by simpa only [Reps, Rep] using ha
  cases t0 : decide (chk_0 k n a b c d v ph = (0 : Int)) with
  | true =>
   cases t1 : decide (k = (4 : Int)) with
   | true =>
    exact ⟨_, _, _, ha', ph_r0 k n a b c d v ph (by rw [t0]; rfl) (by rw [t1]; rfl), rfl, fun cv hc => by have := hc g.nx μ; have e0 : ph_0 k n a b c d v ph = (fmul (cn v) (cos_0 (Int.tmod (Int.tmod ph (24 : Int) + (24 : Int)) (24 : Int)))) := (ct t0).trans ((ct t1).trans (rfl)); have e1 : ph_1 k n a b c d v ph = (fmul (cn v) (cos_0 (Int.tmod (Int.tmod (Int.tmod ph (24 : Int) + (24 : Int)) (24 : Int) + (18 : Int)) (24 : Int)))) := (ct t0).trans ((ct t1).trans (rfl)); have e2 : ph_2 k n a b c d v ph = ((0 : Int)) := (ct t0).trans ((ct t1).trans (rfl)); rw [e0, e1, e2]; simpa only [Rep, Reps, Rep_cmpB] using this⟩
   | false =>
    cases t2 : decide (k = (5 : Int)) with
    | true =>
     exact ⟨_, _, _, ha', ph_r1 k n a b c d v ph (by rw [t0]; rfl) (by rw [t1]; rfl) (by rw [t2]; rfl), rfl, fun cv hc => by have := hc g.nx μ; have e0 : ph_0 k n a b c d v ph = (fmul (cn v) (cos_0 (Int.tmod (Int.tmod ph (24 : Int) + (24 : Int)) (24 : Int)))) := (ct t0).trans ((cf t1).trans ((ct t2).trans (rfl))); have e1 : ph_1 k n a b c d v ph = (fmul (cn v) (cos_0 (Int.tmod (Int.tmod (Int.tmod ph (24 : Int) + (24 : Int)) (24 : Int) + (18 : Int)) (24 : Int)))) := (ct t0).trans ((cf t1).trans ((ct t2).trans (rfl))); have e2 : ph_2 k n a b c d v ph = ((0 : Int)) := (ct t0).trans ((cf t1).trans ((ct t2).trans (rfl))); rw [e0, e1, e2]; simpa only [Rep, Reps, Rep_cmpB] using this⟩
    | false =>
     exact ⟨_, _, _, ha', ph_r2 k n a b c d v ph (by rw [t0]; rfl) (by rw [t1]; rfl) (by rw [t2]; rfl), rfl, fun cv hc => by have := hc g.nx μ; have e0 : ph_0 k n a b c d v ph = ((0 : Nat)) := (ct t0).trans ((cf t1).trans ((cf t2).trans (rfl))); have e1 : ph_1 k n a b c d v ph = ((0 : Nat)) := (ct t0).trans ((cf t1).trans ((cf t2).trans (rfl))); have e2 : ph_2 k n a b c d v ph = ((2 : Int)) := (ct t0).trans ((cf t1).trans ((cf t2).trans (rfl))); rw [e0, e1, e2]; simpa only [Rep, Reps, Rep_cmpB] using this⟩
  | false =>
   exact ⟨_, _, _, ha', ph_r3 k n a b c d v ph (by rw [t0]; rfl), rfl, fun cv hc => by have := hc g.nx μ; have e0 : ph_0 k n a b c d v ph = ((0 : Nat)) := (cf t0).trans (rfl); have e1 : ph_1 k n a b c d v ph = ((0 : Nat)) := (cf t0).trans (rfl); have e2 : ph_2 k n a b c d v ph = (chk_0 k n a b c d v ph) := (cf t0).trans (rfl); rw [e0, e1, e2]; simpa only [Rep, Reps, Rep_cmpB] using this⟩
 ·exact callR_ok _ _ _ _ _ h
theorem phS_tch : ∀ args, Tch (phS args) := by
 intro args
 unfold phS
 split
 ·exact Tch.ret _
 ·exact callR_tch _ _


def cxR (f : Nat → Nat × Nat) (j : Nat) : List AV := [.cpx true (f j).1 (f j).2]
theorem ofE_zero {E : Nat → El} {n : Nat} : ∀ m, m ≤ n → (ofE chkE E n m).1 = 0 → ∀ j, n - m ≤ j → j < n → badE chkE E j = 0
 | 0, _, _, j, h1, h2 => by omega
 | m + 1, hm, h, j, h1, h2 => by
  unfold ofE at h
  by_cases c : badE chkE E (n - (m + 1)) = 0
  ·rw [decide_eq_true c, cond_true] at h
   by_cases q : j = n - (m + 1)
   ·rw [q]; exact c
   ·exact ofE_zero m (by omega) h j (by omega) h2
  ·rw [decide_eq_false c, cond_false] at h
   exact absurd h c
theorem ofR_zero {E : Nat → El} {n : Nat} (h : (ofR chkE E n).1 = 0) : n ≤ 256 ∧ ∀ j, j < n → badE chkE E j = 0 := by
 unfold ofR at h
 by_cases c : 256 < n
 ·rw [decide_eq_true c] at h; exact absurd (show (3 : Int) = 0 from h) (by decide)
 ·rw [decide_eq_false c, cond_false] at h
  exact ⟨by omega, fun j hj => ofE_zero n (Nat.le_refl _) h j (by omega) hj⟩
theorem rep_ptr0 {N K0 i : Nat} {μ : MM} {ρ : Nat → Nat} {a : AA} {c : Value} (h : Rep N μ (.ptr a) c) (h1 : a.i = 0) (h2 : a.o = 0) (hi : i < K0) (e : ρ i = a.g) : Rep K0 (μ.via ρ) (.ptr ⟨false, i, 0, 0⟩) c := by
 simp only [Rep] at h ⊢
 refine ⟨hi, h.2.trans ?_⟩
 simp only [MM.addr, MM.via, e, h1, h2]
theorem view1 {N : Nat} {μ : MM} {hp : Array Obj} {g sz : Nat} {own : Bool} {c : Cont} {row : List AV} (h : BkOk N μ hp g (.cells own sz 1 c)) (k : RowGe (c.row 0) row) : BkOk N μ hp g (.cells false sz 1 (.fn fun _ => row)) := by
 refine ⟨h.1, h.2.1, fun hr => ?_⟩
 obtain ⟨cur, ty, fz, p1, p2, p3, p4⟩ := h.2.2 (.inl (by omega))
 refine ⟨cur, ty, fz, p1, p2, fun h => (by cases h), fun i hi => ?_⟩
 obtain rfl : i = 0 := by omega
 exact RowOk.ge (p4 0 (by omega)) k
/-- a net's row, read: its slices and maps -/
structure NetA where
 n : Nat
 q : Nat
 r : Nat
 l : AA
 nd : AA
 bg : AA
 m1 : Nat
 m2 : Nat
 m3 : Nat
def flat0 (a : AA) : Bool := Nat.beq a.i 0 && Nat.beq a.o 0
def asNet : List AV → Option NetA
 | [.bool true, .slc _ true a1 n, .mp m1, .slc _ true a2 q, .mp m2, .slc _ true a3 r, .mp m3] => bif flat0 a1 && flat0 a2 && flat0 a3 then some ⟨n, q, r, a1, a2, a3, m1, m2, m3⟩ else none
 | _ => none
/-- the net at a name -/
noncomputable def netAt (N : Nat) : M NetA := (getC N).andThen fun b => (M.okIf (Nat.beq b.2.1 7 && Nat.beq b.2.2.1 1)).andThen fun _ => M.ofOpt (asNet (b.2.2.2.row 0))
theorem Tch_netAt (N : Nat) : Tch (netAt N) := (Tch.getC _).andThen fun _ => (Tch.okIf _).andThen fun _ => Tch.ofOpt _
theorem flat0_is {a : AA} (h : flat0 a = true) : a.i = 0 ∧ a.o = 0 := by
 unfold flat0 at h
 rw [Bool.and_eq_true] at h
 exact ⟨Nat.eq_of_beq_eq_true h.1, Nat.eq_of_beq_eq_true h.2⟩
theorem asNet_some {l : List AV} {w : NetA} (h : asNet l = some w) : ∃ s1 s2 s3, l = [.bool true, .slc s1 true w.l w.n, .mp w.m1, .slc s2 true w.nd w.q, .mp w.m2, .slc s3 true w.bg w.r, .mp w.m3] ∧ (w.l.i = 0 ∧ w.l.o = 0) ∧ (w.nd.i = 0 ∧ w.nd.o = 0) ∧ (w.bg.i = 0 ∧ w.bg.o = 0) := by
 unfold asNet at h
 split at h
 ·rename_i s1 a1 n m1 s2 a2 q m2 s3 a3 r m3
  cases c : flat0 a1 && flat0 a2 && flat0 a3 with
  | false => rw [c] at h; cases h
  | true =>
   rw [c] at h
   cases h
   simp only [Bool.and_eq_true] at c
   exact ⟨s1, s2, s3, rfl, flat0_is c.1.1, flat0_is c.1.2, flat0_is c.2⟩
 ·cases h
theorem netAt_done {N : Nat} {w : NetA} {g g' : G} (h : netAt N g = .done w g') : g = g' ∧ ∃ ob c s1 s2 s3, g.H.get N = some (.cells ob 7 1 c) ∧ c.row 0 = [.bool true, .slc s1 true w.l w.n, .mp w.m1, .slc s2 true w.nd w.q, .mp w.m2, .slc s3 true w.bg w.r, .mp w.m3] ∧ (w.l.i = 0 ∧ w.l.o = 0) ∧ (w.nd.i = 0 ∧ w.nd.o = 0) ∧ (w.bg.i = 0 ∧ w.bg.o = 0) := by
 unfold netAt at h
 obtain ⟨⟨ob, zb, mb, cb⟩, g1, a1, h1⟩ := done_of h
 obtain ⟨t1, rfl⟩ := getC_done a1
 obtain ⟨_, g2, a2, h2⟩ := done_of h1
 obtain ⟨hq, rfl⟩ := okIf_done a2
 obtain ⟨h3, rfl⟩ := ofOpt_done h2
 simp only [Bool.and_eq_true] at hq
 obtain rfl := Nat.eq_of_beq_eq_true hq.1
 obtain rfl := Nat.eq_of_beq_eq_true hq.2
 obtain ⟨s1, s2, s3, e, x⟩ := asNet_some h3
 exact ⟨rfl, ob, cb, s1, s2, s3, t1, e, x⟩
/-- the great names of a net's blocks -/
def netRho (N : Nat) (w : NetA) (i : Nat) : Nat := if i = 2 then N else if i = 3 then w.m1 else if i = 4 then w.m2 else if i = 5 then w.m3 else if i = 6 then w.l.g else if i = 7 then w.nd.g else w.bg.g
theorem net_row {c : Cont} {w : NetA} {s1 s2 s3 : Bool} (e : c.row 0 = [.bool true, .slc s1 true w.l w.n, .mp w.m1, .slc s2 true w.nd w.q, .mp w.m2, .slc s3 true w.bg w.r, .mp w.m3]) (h1 : w.l.i = 0 ∧ w.l.o = 0) (h2 : w.nd.i = 0 ∧ w.nd.o = 0) (h3 : w.bg.i = 0 ∧ w.bg.o = 0) {ρ : Nat → Nat} (p3 : ρ 3 = w.m1) (p4 : ρ 4 = w.m2) (p5 : ρ 5 = w.m3) (p6 : ρ 6 = w.l.g) (p7 : ρ 7 = w.nd.g) (p8 : ρ 8 = w.bg.g) : RowGe (c.row 0) (rens ρ (netR 6 7 8 w.n w.q w.r)) := by
 rw [e]
 refine ⟨AV.ge.refl _, rfl, AV.ge.hdr p6.symm h1.1 h1.2, rfl, ?_, rfl, AV.ge.hdr p7.symm h2.1 h2.2, rfl, ?_, rfl, AV.ge.hdr p8.symm h3.1 h3.2, rfl, ?_, rfl, trivial⟩
 ·show AV.ge (.mp w.m1) (.mp (ρ 3)); rw [p3]; exact AV.ge.refl _
 ·show AV.ge (.mp w.m2) (.mp (ρ 4)); rw [p4]; exact AV.ge.refl _
 ·show AV.ge (.mp w.m3) (.mp (ρ 5)); rw [p5]; exact AV.ge.refl _
/-- a row as a number -/
noncomputable def cxof (c : Cont) (j : Nat) : Nat × Nat := (cre (c.row j), cim (c.row j))
def CxRow (l : List AV) : Prop := RowGe l [.cpx true (cre l) (cim l)]
/-- what a net's blocks hold -/
structure NetQ (n q r nl nn nb : Nat) (M1 M2 M3 : List (Tx × Int)) (cl cn cb : Nat → List AV) : Prop where
 n256 : n ≤ 256
 ln : nl = n
 lq : nn = q
 lr : nb = r
 q_is : q = (ND (rowsE cl) n).length
 r_is : r = (BR (rowsE cl) n).length
 m1 : M1 = zipF 0 (NM (rowsE cl) n)
 m2 : M2 = zipF 0 (ND (rowsE cl) n)
 m3 : M3 = zipF 0 (BR (rowsE cl) n)
 rl : ∀ j, j < n → RowGe (cl j) (elR (rowsE cl j))
 rn : ∀ j, j < q → RowGe (cn j) (txR (lget (ND (rowsE cl) n)) j)
 rb : ∀ j, j < r → RowGe (cb j) (txR (lget (BR (rowsE cl) n)) j)
/-- the net at a name, its elements -/
noncomputable def netRd (N : Nat) : M (NetA × (Nat → El)) :=
 (netAt N).andThen fun w => (M.okIf (nodupB [N, w.m1, w.m2, w.m3, w.l.g, w.nd.g, w.bg.g])).andThen fun _ => (M.getB w.m1).andThen fun b1 => (M.ofOpt (asSI b1)).andThen fun M1 => (M.getB w.m2).andThen fun b2 => (M.ofOpt (asSI b2)).andThen fun M2 => (M.getB w.m3).andThen fun b3 => (M.ofOpt (asSI b3)).andThen fun M3 =>
  (getC w.l.g).andThen fun cl => (getC w.nd.g).andThen fun cn => (getC w.bg.g).andThen fun cb => (M.okIf (Nat.beq cl.2.1 8 && Nat.beq cn.2.1 1 && Nat.beq cb.2.1 1)).andThen fun _ =>
   (M.req (NetQ w.n w.q w.r cl.2.2.1 cn.2.2.1 cb.2.2.1 M1.2 M2.2 M3.2 cl.2.2.2.row cn.2.2.2.row cb.2.2.2.row)).andThen fun _ => M.ret (w, rowsE cl.2.2.2.row)
theorem Tch_netRd (N : Nat) : Tch (netRd N) := (Tch_netAt _).andThen fun _ => (Tch.okIf _).andThen fun _ => (Tch.getB _).andThen fun _ => (Tch.ofOpt _).andThen fun _ => (Tch.getB _).andThen fun _ => (Tch.ofOpt _).andThen fun _ => (Tch.getB _).andThen fun _ => (Tch.ofOpt _).andThen fun _ => (Tch.getC _).andThen fun _ => (Tch.getC _).andThen fun _ => (Tch.getC _).andThen fun _ => (Tch.okIf _).andThen fun _ => (Tch.req _).andThen fun _ => Tch.ret _
/-- what netRd found -/
structure NetF (g : G) (N : Nat) (w : NetA) (E : Nat → El) : Prop where
 net : ∃ ob c s1 s2 s3, g.H.get N = some (.cells ob 7 1 c) ∧ c.row 0 = [.bool true, .slc s1 true w.l w.n, .mp w.m1, .slc s2 true w.nd w.q, .mp w.m2, .slc s3 true w.bg w.r, .mp w.m3]
 l0 : w.l.i = 0 ∧ w.l.o = 0
 nd0 : w.nd.i = 0 ∧ w.nd.o = 0
 bg0 : w.bg.i = 0 ∧ w.bg.o = 0
 dup : [N, w.m1, w.m2, w.m3, w.l.g, w.nd.g, w.bg.g].Nodup
 n256 : w.n ≤ 256
 q_is : w.q = (ND E w.n).length
 r_is : w.r = (BR E w.n).length
 m1 : ∃ s, g.H.get w.m1 = some (.mSI s (zipF 0 (NM E w.n)))
 m2 : ∃ s, g.H.get w.m2 = some (.mSI s (zipF 0 (ND E w.n)))
 m3 : ∃ s, g.H.get w.m3 = some (.mSI s (zipF 0 (BR E w.n)))
 l : ∃ o c, g.H.get w.l.g = some (.cells o 8 w.n c) ∧ ∀ j, j < w.n → RowGe (c.row j) (elR (E j))
 nd : ∃ o c, g.H.get w.nd.g = some (.cells o 1 w.q c) ∧ ∀ j, j < w.q → RowGe (c.row j) (txR (lget (ND E w.n)) j)
 bg : ∃ o c, g.H.get w.bg.g = some (.cells o 1 w.r c) ∧ ∀ j, j < w.r → RowGe (c.row j) (txR (lget (BR E w.n)) j)
theorem netRd_done {N : Nat} {y : NetA × (Nat → El)} {g g' : G} (h : netRd N g = .done y g') : ∃ q, Keep g g' q ∧ (q → NetF g N y.1 y.2) := by
 unfold netRd at h
 obtain ⟨w, g1, a1, h⟩ := done_of h
 obtain ⟨rfl, ob, c, s1, s2, s3, hN, eN, f1, f2, f3⟩ := netAt_done a1
 obtain ⟨_, g2, a2, h⟩ := done_of h
 obtain ⟨dd, rfl⟩ := okIf_done a2
 obtain ⟨b1, g3, a3, h⟩ := done_of h
 obtain ⟨hb1, rfl⟩ := getB_done a3
 obtain ⟨⟨t1, M1⟩, g4, a4, h⟩ := done_of h
 obtain ⟨e1, rfl⟩ := ofOpt_done a4
 obtain ⟨b2, g5, a5, h⟩ := done_of h
 obtain ⟨hb2, rfl⟩ := getB_done a5
 obtain ⟨⟨t2, M2⟩, g6, a6, h⟩ := done_of h
 obtain ⟨e2, rfl⟩ := ofOpt_done a6
 obtain ⟨b3, g7, a7, h⟩ := done_of h
 obtain ⟨hb3, rfl⟩ := getB_done a7
 obtain ⟨⟨t3, M3⟩, g8, a8, h⟩ := done_of h
 obtain ⟨e3, rfl⟩ := ofOpt_done a8
 obtain ⟨⟨o1, z1, k1, cl⟩, g9, a9, h⟩ := done_of h
 obtain ⟨hl, rfl⟩ := getC_done a9
 obtain ⟨⟨o2, z2, k2, cn⟩, g10, a10, h⟩ := done_of h
 obtain ⟨hn, rfl⟩ := getC_done a10
 obtain ⟨⟨o3, z3, k3, cb⟩, g11, a11, h⟩ := done_of h
 obtain ⟨hbb, rfl⟩ := getC_done a11
 obtain ⟨_, g12, a12, h⟩ := done_of h
 obtain ⟨zz, rfl⟩ := okIf_done a12
 obtain ⟨_, g13, a13, h⟩ := done_of h
 have kk := req_done a13
 obtain ⟨rfl, rfl⟩ := ret_done h
 have e1 := asSI_some e1
 have e2 := asSI_some e2
 have e3 := asSI_some e3
 subst e1 e2 e3
 simp only [Bool.and_eq_true] at zz
 obtain ⟨⟨y1, y2⟩, y3⟩ := zz
 obtain rfl := Nat.eq_of_beq_eq_true y1
 obtain rfl := Nat.eq_of_beq_eq_true y2
 obtain rfl := Nat.eq_of_beq_eq_true y3
 refine ⟨_, kk, fun Q => ?_⟩
 dsimp only at Q hl hn hbb hb1 hb2 hb3 ⊢
 have i1 := Q.ln
 have i2 := Q.lq
 have i3 := Q.lr
 subst i1 i2 i3
 refine ⟨⟨ob, c, s1, s2, s3, hN, eN⟩, f1, f2, f3, nodup_of dd, Q.n256, Q.q_is, Q.r_is, ⟨t1, by rw [hb1, Q.m1]⟩, ⟨t2, by rw [hb2, Q.m2]⟩, ⟨t3, by rw [hb3, Q.m3]⟩, ⟨_, _, hl, Q.rl⟩, ⟨_, _, hn, Q.rn⟩, ⟨_, _, hbb, Q.rb⟩⟩
theorem viewR {N : Nat} {μ : MM} {hp : Array Obj} {g sz m : Nat} {own : Bool} {c : Cont} {rows : Nat → List AV} (h : BkOk N μ hp g (.cells own sz m c)) (k : ∀ j, j < m → RowGe (c.row j) (rows j)) : BkOk N μ hp g (.cells false sz m (.fn rows)) := by
 refine ⟨h.1, h.2.1, fun hr => ?_⟩
 obtain ⟨cur, ty, fz, p1, p2, p3, p4⟩ := h.2.2 (hr.elim .inl fun c => by cases c.1)
 exact ⟨cur, ty, fz, p1, p2, fun h => (by cases h), fun i hi => RowOk.ge (p4 i hi) (k i hi)⟩

def fbk (p : Nat → Bool) : Nat → Nat → Nat
 | i, 0 => i
 | i, m + 1 => bif p i then fbk p (i + 1) m else i
theorem fbk_all {p : Nat → Bool} : ∀ (m i : Nat), (∀ j, i ≤ j → j < i + m → p j = true) → fbk p i m = i + m
 | 0, i, _ => rfl
 | m + 1, i, h => by
  unfold fbk
  rw [h i (Nat.le_refl _) (by omega), cond_true, fbk_all m (i + 1) fun j a b => h j (by omega) (by omega)]
  omega
theorem fbk_at {p : Nat → Bool} {k : Nat} (hk : p k = false) : ∀ (m i : Nat), i ≤ k → k < i + m → (∀ j, i ≤ j → j < k → p j = true) → fbk p i m = k
 | 0, i, h1, h2, _ => by omega
 | m + 1, i, h1, h2, h => by
  unfold fbk
  by_cases c : i = k
  ·subst c; rw [hk, cond_false]
  ·rw [h i (Nat.le_refl _) (by omega), cond_true]
   exact fbk_at hk m (i + 1) (by omega) (by omega) fun j a b => h j (by omega) b
/-- the net's blocks, told in the small heap -/
theorem net_told {g : G} {N : Nat} {w : NetA} {E : Nat → El} (F : NetF g N w E) : ∀ i b, (hpL [(2, .cells false 7 1 (.fn fun _ => netR 6 7 8 w.n w.q w.r)), (3, .mSI true (zipF 0 (NM E w.n))), (4, .mSI true (zipF 0 (ND E w.n))), (5, .mSI true (zipF 0 (BR E w.n))), (6, .cells false 8 w.n (.fn fun j => elR (E j))), (7, .cells false 1 w.q (.fn (txR (lget (ND E w.n))))), (8, .cells false 1 w.r (.fn (txR (lget (BR E w.n)))))]).get i = some b → Sx.Told g (netRho N w) 9 i b := by
 intro i b hbb
 have hm' := hpL_get hbb
 simp only [List.mem_cons, List.not_mem_nil, or_false] at hm'
 rcases hm' with h | h | h | h | h | h | h <;> cases h
 ·obtain ⟨ob, c, s1, s2, s3, hN, eN⟩ := F.net
  exact ⟨by omega, fun j hj v hv => List.all_eq_true.1 (show (netR 6 7 8 w.n w.q w.r).all (fun v => v.low 9) = true from rfl) v hv, _, hN, fun N μ hp k => view1 k (net_row eN F.l0 F.nd0 F.bg0 rfl rfl rfl rfl rfl rfl), fun h => (by cases h), fun μ m hr => .inl (by omega)⟩
 ·obtain ⟨s, h⟩ := F.m1
  exact ⟨by omega, trivial, _, h, fun N μ hp k => k, fun _ => rfl, fun μ m hr => hr⟩
 ·obtain ⟨s, h⟩ := F.m2
  exact ⟨by omega, trivial, _, h, fun N μ hp k => k, fun _ => rfl, fun μ m hr => hr⟩
 ·obtain ⟨s, h⟩ := F.m3
  exact ⟨by omega, trivial, _, h, fun N μ hp k => k, fun _ => rfl, fun μ m hr => hr⟩
 ·obtain ⟨o, c, h, hr⟩ := F.l
  exact ⟨by omega, fun j hj v hv => List.all_eq_true.1 (elR_low 9 _) v hv, _, h, fun N μ hp k => viewR k hr, fun h => (by cases h), fun μ m hr => hr.elim .inl fun c => by cases c.1⟩
 ·obtain ⟨o, c, h, hr⟩ := F.nd
  exact ⟨by omega, fun j hj v hv => by rw [List.mem_singleton.1 hv]; rfl, _, h, fun N μ hp k => viewR k hr, fun h => (by cases h), fun μ m hr => hr.elim .inl fun c => by cases c.1⟩
 ·obtain ⟨o, c, h, hr⟩ := F.bg
  exact ⟨by omega, fun j hj v hv => by rw [List.mem_singleton.1 hv]; rfl, _, h, fun N μ hp k => viewR k hr, fun h => (by cases h), fun μ m hr => hr.elim .inl fun c => by cases c.1⟩
theorem net_inj {g : G} {N : Nat} {w : NetA} {E : Nat → El} (F : NetF g N w E) : ∀ i j b b', (hpL [(2, .cells false 7 1 (.fn fun _ => netR 6 7 8 w.n w.q w.r)), (3, .mSI true (zipF 0 (NM E w.n))), (4, .mSI true (zipF 0 (ND E w.n))), (5, .mSI true (zipF 0 (BR E w.n))), (6, .cells false 8 w.n (.fn fun j => elR (E j))), (7, .cells false 1 w.q (.fn (txR (lget (ND E w.n))))), (8, .cells false 1 w.r (.fn (txR (lget (BR E w.n)))))]).get i = some b → (hpL [(2, .cells false 7 1 (.fn fun _ => netR 6 7 8 w.n w.q w.r)), (3, .mSI true (zipF 0 (NM E w.n))), (4, .mSI true (zipF 0 (ND E w.n))), (5, .mSI true (zipF 0 (BR E w.n))), (6, .cells false 8 w.n (.fn fun j => elR (E j))), (7, .cells false 1 w.q (.fn (txR (lget (ND E w.n))))), (8, .cells false 1 w.r (.fn (txR (lget (BR E w.n)))))]).get j = some b' → netRho N w i = netRho N w j → i = j := by
 intro i j b b' hi hj e
 have d := F.dup
 simp only [List.nodup_cons, List.mem_cons, List.not_mem_nil, or_false, not_or, not_false_eq_true, List.nodup_nil, and_true] at d
 obtain ⟨⟨d1, d2, d3, d4, d5, d6⟩, ⟨d7, d8, d9, d10, d11⟩, ⟨d12, d13, d14, d15⟩, ⟨d16, d17, d18⟩, ⟨d19, d20⟩, d21⟩ := d
 have hm1 := hpL_get hi
 have hm2 := hpL_get hj
 simp only [List.mem_cons, List.not_mem_nil, or_false] at hm1 hm2
 rcases hm1 with h | h | h | h | h | h | h <;> cases h <;> rcases hm2 with h | h | h | h | h | h | h <;> cases h <;> first | rfl | exact absurd e (by assumption) | exact absurd e.symm (by assumption)



/-- a net's blocks in a small heap -/
noncomputable def netBL (w : NetA) (E : Nat → El) : List (Nat × ABk) := [(2, .cells false 7 1 (.fn fun _ => netR 6 7 8 w.n w.q w.r)), (3, .mSI true (zipF 0 (NM E w.n))), (4, .mSI true (zipF 0 (ND E w.n))), (5, .mSI true (zipF 0 (BR E w.n))), (6, .cells false 8 w.n (.fn fun j => elR (E j))), (7, .cells false 1 w.q (.fn (txR (lget (ND E w.n))))), (8, .cells false 1 w.r (.fn (txR (lget (BR E w.n)))))]
def roG (N : Nat) (w : NetA) (rx : Nat → Nat) (i : Nat) : Nat := if i < 9 then netRho N w i else rx i
def kaG (w : NetA) (nx : Nat) (nms : List Nat) (i : Nat) : Nat := if i = w.m1 then 3 else if i = w.m2 then 4 else if i = w.m3 then 5 else nms.getD (i - nx) 0
noncomputable def upd3 (H : T ABk) (w : NetA) (E : Nat → El) : T ABk := ((H.upd w.m1 (some (ABk.mSI true (zipF 0 (NM E w.n))))).upd w.m2 (some (ABk.mSI true (zipF 0 (ND E w.n))))).upd w.m3 (some (ABk.mSI true (zipF 0 (BR E w.n))))
def newL : List ABk → Nat → List (Nat × ABk)
 | [], _ => []
 | b :: l, i => (i, b) :: newL l (i + 1)
theorem newL_mem : ∀ {l : List ABk} {i : Nat} {q : Nat × ABk}, q ∈ newL l i → ∃ j b, l[j]? = some b ∧ q = (i + j, b)
 | [], i, q, h => by cases h
 | b :: l, i, q, h => by
  rcases List.mem_cons.1 h with rfl | h
  ·exact ⟨0, b, rfl, rfl⟩
  ·obtain ⟨j, u, h1, rfl⟩ := newL_mem h
   exact ⟨j + 1, u, by simpa using h1, by rw [show i + 1 + j = i + (j + 1) by omega]⟩
theorem newL_in : ∀ {l : List ABk} {i j : Nat} {b : ABk}, l[j]? = some b → (i + j, b) ∈ newL l i
 | b0 :: l, i, 0, b, h => by cases h; exact List.mem_cons_self
 | b0 :: l, i, j + 1, b, h => by
  have h' : l[j]? = some b := by simpa using h
  have := newL_in (i := i + 1) h'
  rw [show i + 1 + j = i + (j + 1) by omega] at this
  exact List.mem_cons_of_mem _ this
theorem net_renG {N : Nat} {w : NetA} {E : Nat → El} {rx : Nat → Nat} : ∀ i b, (hpL (netBL w E)).get i = some b → b.ren (roG N w rx) = b.ren (netRho N w) ∧ b.lowR 9 := by
 intro i b hb
 have hm := hpL_get hb
 simp only [netBL, List.mem_cons, List.not_mem_nil, or_false] at hm
 rcases hm with h | h | h | h | h | h | h <;> cases h
 ·exact ⟨rfl, fun j hj v hv => List.all_eq_true.1 (show (netR 6 7 8 w.n w.q w.r).all (fun v => v.low 9) = true from rfl) v hv⟩
 ·exact ⟨rfl, trivial⟩
 ·exact ⟨rfl, trivial⟩
 ·exact ⟨rfl, trivial⟩
 ·exact ⟨rfl, fun j hj v hv => List.all_eq_true.1 (elR_low 9 _) v hv⟩
 ·exact ⟨rfl, fun j hj v hv => by rw [List.mem_singleton.1 hv]; rfl⟩
 ·exact ⟨rfl, fun j hj v hv => by rw [List.mem_singleton.1 hv]; rfl⟩
mutual
theorem av_up {K K' : Nat} (hK : K ≤ K') : ∀ {v : AV}, v.low K = true → v.low K' = true
 | .top, _ => rfl
 | .bool _, _ => rfl
 | .sbool _, _ => rfl
 | .int .., _ => rfl
 | .flt .., _ => rfl
 | .raw .., _ => rfl
 | .bits .., _ => rfl
 | .cpx .., _ => rfl
 | .str .., _ => rfl
 | .nilp, _ => rfl
 | .nils, _ => rfl
 | .nilm, _ => rfl
 | .nilf, _ => rfl
 | .nili, _ => rfl
 | .ptr a, h => by simp only [AV.low] at h ⊢; exact Nat.ble_eq_true_of_le (Nat.lt_of_lt_of_le (blt_lt h) hK)
 | .slc _ _ a _, h => by simp only [AV.low] at h ⊢; exact Nat.ble_eq_true_of_le (Nat.lt_of_lt_of_le (blt_lt h) hK)
 | .mp g, h => by simp only [AV.low] at h ⊢; exact Nat.ble_eq_true_of_le (Nat.lt_of_lt_of_le (blt_lt h) hK)
 | .fn _ x c, h => by
  simp only [AV.low, Bool.and_eq_true] at h ⊢
  exact ⟨avs_up hK h.1, avs_up hK h.2⟩
 | .agg l, h => by simp only [AV.low] at h ⊢; exact avs_up hK h
 | .tup l, h => by simp only [AV.low] at h ⊢; exact avs_up hK h
theorem avs_up {K K' : Nat} (hK : K ≤ K') : ∀ {l : List AV}, lows K l = true → lows K' l = true
 | [], _ => rfl
 | v :: l, h => by
  simp only [lows, Bool.and_eq_true] at h ⊢
  exact ⟨av_up hK h.1, avs_up hK h.2⟩
end
theorem low_up (v : AV) {K K' : Nat} (h : v.low K = true) (hK : K ≤ K') : v.low K' = true := av_up hK h
theorem lowR_up {b : ABk} {K K' : Nat} (h : b.lowR K) (hK : K ≤ K') : b.lowR K' := by
 cases b with
 | cells own sz m c => exact fun i hi v hv => low_up v (h i hi v hv) hK
 | _ => trivial
theorem netCall {P : Program} {f : FuncId} {fn : Func} {c : Code} (hf : P.funcs[f]? = some fn) (hb : fn.body = some c) (hname : (fn.name == "runtime.NumGoroutine") = false) {args argsC : List AV} {g g' : G} {p : Prop} (hcs : g'.cs → g.cs ∧ p)
  {N : Nat} {w : NetA} {E : Nat → El} (ff : p → NetF g N w E) {xl : List (Nat × ABk)} {rx : Nat → Nat} {K0 K' : Nat} (hK0 : 9 ≤ K0)
  (hA : p → ∀ M μ (cs : List Value), Reps M μ args cs → Reps K0 (μ.via (roG N w rx)) argsC cs)
  (tx : p → ∀ i b, (hpL xl).get i = some b → 9 ≤ i ∧ Sx.Told g (roG N w rx) K0 i b ∧ b.owned = false)
  (ix : p → ∀ i j b b', (hpL xl).get i = some b → (hpL (netBL w E ++ xl)).get j = some b' → roG N w rx i = roG N w rx j → i = j)
  {bs : List ABk} {nms : List Nat} (hl : nms.length = bs.length) (hnew : ∀ nm ∈ nms, K0 ≤ nm) (hnd : nms.Nodup)
  (hH : g'.H = putNew (upd3 g.H w E) g.nx bs) (hnx : g'.nx = g.nx + bs.length)
  (hbs : ∀ b ∈ bs, b.owned = true ∧ (∀ K, b.lowR K) ∧ ∀ S : Nat → Prop, b.inS S)
  {v : AV} (hv : v.low (g.nx + bs.length) = true) (hvS : v.inS fun i => g.nx ≤ i ∧ i < g.nx + bs.length)
  (h : p → (∀ j, j < nms.length → kaG w g.nx nms (g.nx + j) = nms.getD j 0) → GoesB P c fn.ntmps K0 K0 K' (frameOf argsC 0 .e) (hpL (netBL w E ++ xl)) fun e fr' H' => (e = .ret ∨ e = .normal) ∧ ∃ vs gr, resultsA P fr' fn.results.toList ⟨H', K', [], [], True⟩ = .done vs gr ∧ gr.cs ∧ AV.ge (packA vs) (v.ren (kaG w g.nx nms)) ∧
   (H'.get 3 = some (.mSI true (zipF 0 (NM E w.n))) ∧ H'.get 4 = some (.mSI true (zipF 0 (ND E w.n))) ∧ H'.get 5 = some (.mSI true (zipF 0 (BR E w.n)))) ∧ ∀ j b, bs[j]? = some b → ∃ b0, H'.get (nms.getD j 0) = some b0 ∧ SameC b0 (b.ren (kaG w g.nx nms))) :
  CallIs P f args v g g' := by
 have nb : ∀ i b, (hpL (netBL w E)).get i = some b → 2 ≤ i ∧ i < 9 := fun i b hb => by
  have hm := hpL_get hb
  simp only [netBL, List.mem_cons, List.not_mem_nil, or_false] at hm
  rcases hm with h | h | h | h | h | h | h <;> cases h <;> omega
 have ro : ∀ i, i < 9 → roG N w rx i = netRho N w i := fun i hi => if_pos hi
 have split : p → ∀ i b, (hpL (netBL w E ++ xl)).get i = some b → ((hpL (netBL w E)).get i = some b ∧ i < 9) ∨ ((hpL xl).get i = some b ∧ 9 ≤ i) := fun hp i b hb => by
  rw [hpL_app] at hb
  cases h1 : (hpL (netBL w E)).get i with
  | some b1 => rw [h1] at hb; cases hb; exact .inl ⟨rfl, (nb _ _ h1).2⟩
  | none => rw [h1] at hb; exact .inr ⟨hb, (tx hp _ _ hb).1⟩
 refine smallCallN (c := c) hf hb hname (argsC := argsC) (bl := netBL w E ++ xl) (bl' := [(w.m1, .mSI true (zipF 0 (NM E w.n))), (w.m2, .mSI true (zipF 0 (ND E w.n))), (w.m3, .mSI true (zipF 0 (BR E w.n)))] ++ newL bs g.nx) (K0 := K0) (K' := K') (p := p) hcs (roG N w rx) (kaG w g.nx nms) (nms := nms) (by rw [hnx, hl]) (v := v) (fun i => i = w.m1 ∨ i = w.m2 ∨ i = w.m3 ∨ (g.nx ≤ i ∧ i < g.nx + bs.length)) (fun hp M μ cs hr => hA hp M μ cs hr) ?_ ?_ hnew hnd ?_ ?_ ?_ ?_ ?_ ?_ ?_
 ·intro hp i b hb
  rcases split hp i b hb with ⟨hb, hi⟩ | ⟨hb, hi⟩
  ·have t := net_told (ff hp) i b hb
   obtain ⟨b1, t1, t2, t3, t4⟩ := t.of
   refine ⟨by omega, ?_, b1, by rw [ro i hi]; exact t1, fun M μ hpp k => ?_, t3, t4⟩
   ·exact lowR_up t.low hK0
   ·rw [ro i hi] at k ⊢
    rw [(net_renG i b hb).1]
    exact t2 M μ hpp k
  ·exact (tx hp i b hb).2.1
 ·intro hp i j b b' hi hj e
  rcases split hp i b hi with ⟨hi', li⟩ | ⟨hi', li⟩
  ·rcases split hp j b' hj with ⟨hj', lj⟩ | ⟨hj', lj⟩
   ·rw [ro i li, ro j lj] at e
    exact net_inj (ff hp) i j b b' hi' hj' e
   ·exact (ix hp j i b' b hj' hi e.symm).symm
  ·exact ix hp i j b b' hi' hj e
 ·-- κ at the new names
  intro hp hL j hj
  obtain ⟨⟨_, h1⟩, ⟨_, h2⟩, ⟨_, h3⟩⟩ := (⟨(ff hp).m1, (ff hp).m2, (ff hp).m3⟩ : _ ∧ _ ∧ _)
  have l1 := hL _ _ h1; have l2 := hL _ _ h2; have l3 := hL _ _ h3
  show kaG w g.nx nms (g.nx + j) = _
  unfold kaG
  rw [if_neg (by omega), if_neg (by omega), if_neg (by omega), Nat.add_sub_cancel_left]
 ·intro hp hL i hi
  have d := (ff hp).dup
  simp only [List.nodup_cons, List.mem_cons, List.not_mem_nil, or_false, not_or, not_false_eq_true, List.nodup_nil, and_true] at d
  obtain ⟨⟨d1, d2, d3, d4, d5, d6⟩, ⟨d7, d8, d9, d10, d11⟩, ⟨d12, d13, d14, d15⟩, ⟨d16, d17, d18⟩, ⟨d19, d20⟩, d21⟩ := d
  obtain ⟨⟨_, h1⟩, ⟨_, h2⟩, ⟨_, h3⟩⟩ := (⟨(ff hp).m1, (ff hp).m2, (ff hp).m3⟩ : _ ∧ _ ∧ _)
  have l1 := hL _ _ h1; have l2 := hL _ _ h2; have l3 := hL _ _ h3
  have k1 : kaG w g.nx nms w.m1 = 3 := if_pos rfl
  have k2 : kaG w g.nx nms w.m2 = 4 := (if_neg (fun c => d7 c.symm)).trans (if_pos rfl)
  have k3 : kaG w g.nx nms w.m3 = 5 := (if_neg (fun c => d8 c.symm)).trans ((if_neg (fun c => d12 c.symm)).trans (if_pos rfl))
  rcases hi with rfl | rfl | rfl | ⟨h4, h5⟩
  ·exact ⟨by omega, fun _ => by rw [k1]; exact ⟨by omega, ro 3 (by omega)⟩⟩
  ·exact ⟨by omega, fun _ => by rw [k2]; exact ⟨by omega, ro 4 (by omega)⟩⟩
  ·exact ⟨by omega, fun _ => by rw [k3]; exact ⟨by omega, ro 5 (by omega)⟩⟩
  ·exact ⟨by omega, fun h => by omega⟩
 ·-- the walk
  intro hp hL
  have d := (ff hp).dup
  simp only [List.nodup_cons, List.mem_cons, List.not_mem_nil, or_false, not_or, not_false_eq_true, List.nodup_nil, and_true] at d
  obtain ⟨⟨d1, d2, d3, d4, d5, d6⟩, ⟨d7, d8, d9, d10, d11⟩, ⟨d12, d13, d14, d15⟩, ⟨d16, d17, d18⟩, ⟨d19, d20⟩, d21⟩ := d
  obtain ⟨⟨_, h1⟩, ⟨_, h2⟩, ⟨_, h3⟩⟩ := (⟨(ff hp).m1, (ff hp).m2, (ff hp).m3⟩ : _ ∧ _ ∧ _)
  have l1 := hL _ _ h1; have l2 := hL _ _ h2; have l3 := hL _ _ h3
  have k1 : kaG w g.nx nms w.m1 = 3 := if_pos rfl
  have k2 : kaG w g.nx nms w.m2 = 4 := (if_neg (fun c => d7 c.symm)).trans (if_pos rfl)
  have k3 : kaG w g.nx nms w.m3 = 5 := (if_neg (fun c => d8 c.symm)).trans ((if_neg (fun c => d12 c.symm)).trans (if_pos rfl))
  have kN : ∀ j, j < nms.length → kaG w g.nx nms (g.nx + j) = nms.getD j 0 := fun j hj => by
   unfold kaG
   rw [if_neg (by omega), if_neg (by omega), if_neg (by omega), Nat.add_sub_cancel_left]
  refine (h hp kN).mono fun e fr' H' ⟨e1, vs, gr, e2, e3, e4, ⟨e5, e6, e7⟩, e8⟩ => ⟨e1, vs, gr, e2, e3, e4, fun q hq => ?_⟩
  rcases List.mem_append.1 hq with hq | hq
  ·simp only [List.mem_cons, List.not_mem_nil, or_false] at hq
   rcases hq with rfl | rfl | rfl
   ·exact ⟨_, by rw [k1]; exact e5, SameC.refl _⟩
   ·exact ⟨_, by rw [k2]; exact e6, SameC.refl _⟩
   ·exact ⟨_, by rw [k3]; exact e7, SameC.refl _⟩
  ·obtain ⟨j, b, hj, rfl⟩ := newL_mem hq
   obtain ⟨b0, q1, q2⟩ := e8 j b hj
   exact ⟨b0, by rw [kN j (by rw [hl]; exact (List.getElem?_eq_some_iff.1 hj).1)]; exact q1, q2⟩
 ·intro hp hL; rw [hnx]; exact hv
 ·intro hp hL
  exact AV.inS.mono (fun i hi => .inr (.inr (.inr hi))) hvS
 ·intro hp hL q hq
  have d := (ff hp).dup
  simp only [List.nodup_cons, List.mem_cons, List.not_mem_nil, or_false, not_or, not_false_eq_true, List.nodup_nil, and_true] at d
  obtain ⟨⟨d1, d2, d3, d4, d5, d6⟩, ⟨d7, d8, d9, d10, d11⟩, ⟨d12, d13, d14, d15⟩, ⟨d16, d17, d18⟩, ⟨d19, d20⟩, d21⟩ := d
  obtain ⟨⟨_, h1⟩, ⟨_, h2⟩, ⟨_, h3⟩⟩ := (⟨(ff hp).m1, (ff hp).m2, (ff hp).m3⟩ : _ ∧ _ ∧ _)
  have l1 := hL _ _ h1; have l2 := hL _ _ h2; have l3 := hL _ _ h3
  have k1 : kaG w g.nx nms w.m1 = 3 := if_pos rfl
  have k2 : kaG w g.nx nms w.m2 = 4 := (if_neg (fun c => d7 c.symm)).trans (if_pos rfl)
  have k3 : kaG w g.nx nms w.m3 = 5 := (if_neg (fun c => d8 c.symm)).trans ((if_neg (fun c => d12 c.symm)).trans (if_pos rfl))
  have nbl : ∀ i b, (hpL (netBL w E)).get i = some b → (hpL (netBL w E ++ xl)).get i = some b := fun i b hb => by rw [hpL_app, hb]; rfl
  rcases List.mem_append.1 hq with hq | hq
  ·simp only [List.mem_cons, List.not_mem_nil, or_false] at hq
   rcases hq with rfl | rfl | rfl
   ·exact ⟨.inl rfl, trivial, trivial, fun _ => ⟨_, by rw [k1]; exact nbl 3 _ rfl, rfl, fun μ m h => h⟩, fun _ => rfl⟩
   ·exact ⟨.inr (.inl rfl), trivial, trivial, fun _ => ⟨_, by rw [k2]; exact nbl 4 _ rfl, rfl, fun μ m h => h⟩, fun _ => rfl⟩
   ·exact ⟨.inr (.inr (.inl rfl)), trivial, trivial, fun _ => ⟨_, by rw [k3]; exact nbl 5 _ rfl, rfl, fun μ m h => h⟩, fun _ => rfl⟩
  ·obtain ⟨j, b, hj, rfl⟩ := newL_mem hq
   have hlt := (List.getElem?_eq_some_iff.1 hj).1
   obtain ⟨b1, b2, b3⟩ := hbs b (List.mem_of_getElem? hj)
   exact ⟨.inr (.inr (.inr ⟨by omega, by omega⟩)), b3 _, b2 _, fun h => absurd h (by omega), fun _ => b1⟩
 ·intro hp hL i b hi
  rw [hH, putNew_get] at hi
  split at hi
  ·rename_i hb
   refine .inr (List.mem_append_right _ ?_)
   have := newL_in (i := g.nx) hi
   rwa [show g.nx + (i - g.nx) = i by omega] at this
  ·unfold upd3 at hi
   rw [T.get_upd] at hi
   split at hi
   ·rename_i e; cases hi; subst e; exact .inr (by simp)
   rename_i n3
   rw [T.get_upd] at hi
   split at hi
   ·rename_i e; cases hi; subst e; exact .inr (by simp)
   rename_i n2
   rw [T.get_upd] at hi
   split at hi
   ·rename_i e; cases hi; subst e; exact .inr (by simp)
   rename_i n1
   refine .inl ⟨hi, fun j bj hj ho e => ?_⟩
   rcases split hp j bj hj with ⟨hj, lj⟩ | ⟨hj, lj⟩
   ·rw [ro j lj] at e
    have hm' := hpL_get hj
    simp only [netBL, List.mem_cons, List.not_mem_nil, or_false] at hm'
    rcases hm' with h | h | h | h | h | h | h <;> cases h
    ·cases ho
    ·exact n1 e.symm
    ·exact n2 e.symm
    ·exact n3 e.symm
    ·cases ho
    ·cases ho
    ·cases ho
   ·rw [(tx hp j bj hj).2.2] at ho; cases ho


/-- a solution's two lists -/
structure SolA where
 nv : Nat
 na : Nat
 v : AA
 a : AA
structure SolQ (nv na mV mA : Nat) (cV cA : Nat → List AV) (n : Nat) (E : Nat → El) : Prop where
 lv : mV = nv
 la : mA = na
 rv : ∀ j, j < nv → CxRow (cV j)
 ra : ∀ j, j < na → CxRow (cA j)
 good : ∀ j, j < n → badE chkE E j = 0
noncomputable def solRd (N : Nat) (w : NetA) (E : Nat → El) (s : SolA) : M ((Nat → Nat × Nat) × (Nat → Nat × Nat)) :=
 (M.okIf (flat0 s.v && flat0 s.a && nodupB [s.v.g, s.a.g, N, w.m1, w.m2, w.m3, w.l.g, w.nd.g, w.bg.g])).andThen fun _ => (getC s.v.g).andThen fun cv => (getC s.a.g).andThen fun ca => (M.okIf (Nat.beq cv.2.1 1 && Nat.beq ca.2.1 1)).andThen fun _ =>
  (M.req (SolQ s.nv s.na cv.2.2.1 ca.2.2.1 cv.2.2.2.row ca.2.2.2.row w.n E)).andThen fun _ => M.ret (cxof cv.2.2.2, cxof ca.2.2.2)
theorem Tch_solRd (N : Nat) (w : NetA) (E : Nat → El) (s : SolA) : Tch (solRd N w E s) := (Tch.okIf _).andThen fun _ => (Tch.getC _).andThen fun _ => (Tch.getC _).andThen fun _ => (Tch.okIf _).andThen fun _ => (Tch.req _).andThen fun _ => Tch.ret _
structure SolF (g : G) (N : Nat) (w : NetA) (E : Nat → El) (s : SolA) (f h : Nat → Nat × Nat) : Prop where
 v0 : s.v.i = 0 ∧ s.v.o = 0
 a0 : s.a.i = 0 ∧ s.a.o = 0
 dup : [s.v.g, s.a.g, N, w.m1, w.m2, w.m3, w.l.g, w.nd.g, w.bg.g].Nodup
 v : ∃ o c, g.H.get s.v.g = some (.cells o 1 s.nv c) ∧ ∀ j, j < s.nv → RowGe (c.row j) (cxR f j)
 a : ∃ o c, g.H.get s.a.g = some (.cells o 1 s.na c) ∧ ∀ j, j < s.na → RowGe (c.row j) (cxR h j)
 good : ∀ j, j < w.n → badE chkE E j = 0
theorem solRd_done {N : Nat} {w : NetA} {E : Nat → El} {s : SolA} {y : (Nat → Nat × Nat) × (Nat → Nat × Nat)} {g g' : G} (h : solRd N w E s g = .done y g') : ∃ q, Keep g g' q ∧ (q → SolF g N w E s y.1 y.2) := by
 unfold solRd at h
 obtain ⟨_, g1, a1, h⟩ := done_of h
 obtain ⟨q1, rfl⟩ := okIf_done a1
 obtain ⟨⟨o1, z1, k1, c1⟩, g2, a2, h⟩ := done_of h
 obtain ⟨hv, rfl⟩ := getC_done a2
 obtain ⟨⟨o2, z2, k2, c2⟩, g3, a3, h⟩ := done_of h
 obtain ⟨ha, rfl⟩ := getC_done a3
 obtain ⟨_, g4, a4, h⟩ := done_of h
 obtain ⟨zz, rfl⟩ := okIf_done a4
 obtain ⟨_, g5, a5, h⟩ := done_of h
 have kk := req_done a5
 obtain ⟨rfl, rfl⟩ := ret_done h
 simp only [Bool.and_eq_true] at zz q1
 obtain ⟨y1, y2⟩ := zz
 obtain rfl := Nat.eq_of_beq_eq_true y1
 obtain rfl := Nat.eq_of_beq_eq_true y2
 obtain ⟨⟨x1, x2⟩, x3⟩ := q1
 refine ⟨_, kk, fun Q => ?_⟩
 dsimp only at Q hv ha ⊢
 have i1 := Q.lv
 have i2 := Q.la
 subst i1 i2
 exact ⟨flat0_is x1, flat0_is x2, nodup_of x3, ⟨_, _, hv, Q.rv⟩, ⟨_, _, ha, Q.ra⟩, Q.good⟩
def solB (nv na : Nat) (f h : Nat → Nat × Nat) : List (Nat × ABk) := [(9, .cells false 1 nv (.fn (cxR f))), (10, .cells false 1 na (.fn (cxR h)))]
def solV (om nv na : Nat) : AV := .agg [.raw true om, .slc true true ⟨false, 9, 0, 0⟩ nv, .slc true true ⟨false, 10, 0, 0⟩ na]
def rxS (s : SolA) (i : Nat) : Nat := if i = 9 then s.v.g else s.a.g
theorem rep_slcT {N : Nat} {μ : MM} {s own : Bool} {a : AA} {n : Nat} {c : Value} (h : Rep N μ (.slc s own a n) c) : Rep N μ (.slc true own a n) c := AV.ge.slc s own a rfl _ _ _ h
theorem solCall {P : Program} {f : FuncId} {fn : Func} {c : Code} (hf : P.funcs[f]? = some fn) (hb : fn.body = some c) (hname : (fn.name == "runtime.NumGoroutine") = false) {rest restC : List AV} {g g' : G} {p : Prop} (hcs : g'.cs → g.cs ∧ p)
  {aN : AA} (q0 : aN.i = 0 ∧ aN.o = 0) {w : NetA} {E : Nat → El} (ff : p → NetF g aN.g w E) {s : SolA} {s0 s1 s2 : Bool} {om : Nat} {fv fa : Nat → Nat × Nat} (fs : p → SolF g aN.g w E s fv fa) {K' : Nat}
  (hR : ∀ M M' μ μ' (cs : List Value), Reps M μ rest cs → Reps M' μ' restC cs)
  {bs : List ABk} {nms : List Nat} (hl : nms.length = bs.length) (hnew : ∀ nm ∈ nms, 11 ≤ nm) (hnd : nms.Nodup)
  (hH : g'.H = putNew (upd3 g.H w E) g.nx bs) (hnx : g'.nx = g.nx + bs.length)
  (hbs : ∀ b ∈ bs, b.owned = true ∧ (∀ K, b.lowR K) ∧ ∀ S : Nat → Prop, b.inS S)
  {v : AV} (hv : v.low (g.nx + bs.length) = true) (hvS : v.inS fun i => g.nx ≤ i ∧ i < g.nx + bs.length)
  (h : p → (∀ j, j < nms.length → kaG w g.nx nms (g.nx + j) = nms.getD j 0) → GoesB P c fn.ntmps 11 11 K' (frameOf ([.ptr ⟨false, 2, 0, 0⟩, solV om s.nv s.na] ++ restC) 0 .e) (hpL (netBL w E ++ solB s.nv s.na fv fa)) fun e fr' H' => (e = .ret ∨ e = .normal) ∧ ∃ vs gr, resultsA P fr' fn.results.toList ⟨H', K', [], [], True⟩ = .done vs gr ∧ gr.cs ∧ AV.ge (packA vs) (v.ren (kaG w g.nx nms)) ∧
   (H'.get 3 = some (.mSI true (zipF 0 (NM E w.n))) ∧ H'.get 4 = some (.mSI true (zipF 0 (ND E w.n))) ∧ H'.get 5 = some (.mSI true (zipF 0 (BR E w.n)))) ∧ ∀ j b, bs[j]? = some b → ∃ b0, H'.get (nms.getD j 0) = some b0 ∧ SameC b0 (b.ren (kaG w g.nx nms))) :
  CallIs P f ([.ptr aN, .agg [.raw s0 om, .slc s1 true s.v s.nv, .slc s2 true s.a s.na]] ++ rest) v g g' := by
 have r9 : roG aN.g w (rxS s) 9 = s.v.g := rfl
 have r10 : roG aN.g w (rxS s) 10 = s.a.g := rfl
 have r2 : roG aN.g w (rxS s) 2 = aN.g := rfl
 refine netCall hf hb hname hcs ff (xl := solB s.nv s.na fv fa) (rx := rxS s) (K0 := 11) (by omega) (argsC := [.ptr ⟨false, 2, 0, 0⟩, solV om s.nv s.na] ++ restC) (fun hp M μ cs hr => ?_) (fun hp i b hb => ?_) (fun hp i j b b' hi hj e => ?_) hl hnew hnd hH hnx hbs hv hvS h
 ·simp only [List.cons_append, List.nil_append, Reps] at hr ⊢
  obtain ⟨c1, l1, rfl, h1, c2, l2, rfl, h2, h3⟩ := hr
  refine ⟨c1, _, rfl, rep_ptr0 h1 q0.1 q0.2 (by omega) r2, c2, l2, rfl, ?_, hR _ _ _ _ _ h3⟩
  simp only [Rep, Reps, solV] at h2 ⊢
  obtain ⟨cs, rfl, d1, e1, f1, g1, d2, e2, f2, g2, d3, e3, f3, g3, e4⟩ := h2
  exact ⟨cs, rfl, d1, _, f1, g1, d2, _, f2, rep_slcT (rep_slc0 g2 (fs hp).v0.1 (fs hp).v0.2 (by omega) r9), d3, _, f3, rep_slcT (rep_slc0 g3 (fs hp).a0.1 (fs hp).a0.2 (by omega) r10), e4⟩
 ·have hm := hpL_get hb
  simp only [solB, List.mem_cons, List.not_mem_nil, or_false] at hm
  rcases hm with h | h <;> cases h
  ·obtain ⟨o, c, h1, h2⟩ := (fs hp).v
   exact ⟨by omega, ⟨by omega, fun i hi v hv => by rw [List.mem_singleton.1 hv]; rfl, _, h1, fun N μ hpp k => viewR k h2, fun h => (by cases h), fun μ m hr => hr.elim .inl fun c => by cases c.1⟩, rfl⟩
  ·obtain ⟨o, c, h1, h2⟩ := (fs hp).a
   exact ⟨by omega, ⟨by omega, fun i hi v hv => by rw [List.mem_singleton.1 hv]; rfl, _, h1, fun N μ hpp k => viewR k h2, fun h => (by cases h), fun μ m hr => hr.elim .inl fun c => by cases c.1⟩, rfl⟩
 ·have d := (fs hp).dup
  simp only [List.nodup_cons, List.mem_cons, List.not_mem_nil, or_false, not_or, not_false_eq_true, List.nodup_nil, and_true] at d
  obtain ⟨⟨d1, d2, d3, d4, d5, d6, d7, d8⟩, ⟨d9, d10, d11, d12, d13, d14, d15⟩, _⟩ := d
  have hm1 := hpL_get hi
  have hm2 := hpL_get hj
  simp only [solB, netBL, List.mem_append, List.mem_cons, List.not_mem_nil, or_false] at hm1 hm2
  rcases hm1 with h | h <;> cases h <;> rcases hm2 with (h | h | h | h | h | h | h) | h | h <;> cases h <;> first | rfl | exact absurd e (by assumption) | exact absurd e.symm (by assumption)


theorem fin_r0 (x y : Nat) (c0 : feq (fsub x x) (0 : Nat) = true) : PureP (AV.sbool (feq (fsub y y) (0 : Nat))) (callR 19 [.cpx true x y] (G.on [true])) := eqq (q := (True ∧ (feq (fsub x x) (0 : Nat) = true))) (by kernel_rfl) ⟨trivial, c0⟩
theorem fin_r1 (x y : Nat) (c0 : feq (fsub x x) (0 : Nat) = false) : PureP (AV.bool false) (callR 19 [.cpx true x y] (G.on [false])) := eqq (q := (True ∧ (feq (fsub x x) (0 : Nat) = false))) (by kernel_rfl) ⟨trivial, c0⟩
noncomputable def fin_0 (x y : Nat) : Bool := (bif feq (fsub x x) (0 : Nat) then (feq (fsub y y) (0 : Nat)) else (false))
noncomputable def finS : List AV → M AV
 | [.cpx s0 x y] => M.ret (cmpB s0 (fin_0 x y))
 | args => callR 19 args
theorem finS_ok : ∀ args v g g', finS args g = .done v g' → CallIs Try.prog 19 args v g g' := by
 intro args v g g' h
 unfold finS at h
 split at h
 ·rename_i s0 x y
  obtain ⟨rfl, rfl⟩ := ret_done h
  refine scal callR_ok fun μ cargs ha => ?_
  have ha' : Reps 0 MM.none [.cpx true x y] cargs.toList := by simpa only [Reps, Rep] using ha
  cases t0 : feq (fsub x x) (0 : Nat) with
  | true =>
   exact ⟨_, _, _, ha', fin_r0 x y t0, rfl, fun cv hc => by have := hc g.nx μ; have e0 : fin_0 x y = (feq (fsub y y) (0 : Nat)) := (ct t0).trans (rfl); rw [e0]; simpa only [Rep, Reps, Rep_cmpB] using this⟩
  | false =>
   exact ⟨_, _, _, ha', fin_r1 x y t0, rfl, fun cv hc => by have := hc g.nx μ; have e0 : fin_0 x y = (false) := (cf t0).trans (rfl); rw [e0]; simpa only [Rep, Reps, Rep_cmpB] using this⟩
 ·exact callR_ok _ _ _ _ _ h
theorem finS_tch : ∀ args, Tch (finS args) := by
 intro args
 unfold finS
 split
 ·exact Tch.ret _
 ·exact callR_tch _ _
theorem pick_r0 (x y : Int) (c0 : y ≠ (0 : Int)) (c1 : decide (Int.tmod x y < (0 : Int)) = true) (c2 : (-9223372036854775808 : Int) ≤ Int.tmod x y + y) (c3 : Int.tmod x y + y ≤ (9223372036854775807 : Int)) : PureP (AV.int true .i64 (Int.tmod x y + y)) (callR 12 [.int true .i64 x, .int true .i64 y] (G.on [true])) := eqq (q := (((True ∧ (y ≠ (0 : Int))) ∧ (decide (Int.tmod x y < (0 : Int)) = true)) ∧ (((-9223372036854775808 : Int) ≤ Int.tmod x y + y) ∧ (Int.tmod x y + y ≤ (9223372036854775807 : Int))))) (by kernel_rfl) ⟨⟨⟨trivial, c0⟩, c1⟩, ⟨c2, c3⟩⟩
theorem pick_r1 (x y : Int) (c0 : y ≠ (0 : Int)) (c1 : decide (Int.tmod x y < (0 : Int)) = false) : PureP (AV.int true .i64 (Int.tmod x y)) (callR 12 [.int true .i64 x, .int true .i64 y] (G.on [false])) := eqq (q := ((True ∧ (y ≠ (0 : Int))) ∧ (decide (Int.tmod x y < (0 : Int)) = false))) (by kernel_rfl) ⟨⟨trivial, c0⟩, c1⟩
noncomputable def pick_0 (x y : Int) : Int := (bif decide (Int.tmod x y < (0 : Int)) then (Int.tmod x y + y) else (Int.tmod x y))
noncomputable def pickS : List AV → M AV
 | [.int s0 .i64 x, .int s1 .i64 y] => (M.req (((decide (Int.tmod x y < (0 : Int))) = true → (y ≠ (0 : Int))) ∧ ((decide (Int.tmod x y < (0 : Int))) = true → ((-9223372036854775808 : Int) ≤ Int.tmod x y + y)) ∧ ((decide (Int.tmod x y < (0 : Int))) = true → (Int.tmod x y + y ≤ (9223372036854775807 : Int))) ∧ ((decide (Int.tmod x y < (0 : Int))) = false → (y ≠ (0 : Int))))).andThen fun _ => M.ret (AV.int (Bool.or s0 s1) (IntKind.i64) (pick_0 x y))
 | args => callR 12 args
theorem pickS_ok : ∀ args v g g', pickS args g = .done v g' → CallIs Try.prog 12 args v g g' := by
 intro args v g g' h
 unfold pickS at h
 split at h
 ·rename_i s0 x s1 y
  obtain ⟨_, g1, a1, h1⟩ := done_of h
  obtain ⟨rfl, rfl⟩ := ret_done h1
  refine scalK callR_ok (req_done a1) fun hp μ cargs ha => ?_
  have ha' : Reps 0 MM.none [.int true .i64 x, .int true .i64 y] cargs.toList := by simpa only [Reps, Rep] using ha
  cases t0 : decide (Int.tmod x y < (0 : Int)) with
  | true =>
   exact ⟨_, _, _, ha', pick_r0 x y (hp.1 t0) t0 (hp.2.1 t0) (hp.2.2.1 t0), rfl, fun cv hc => by have := hc g.nx μ; have e0 : pick_0 x y = (Int.tmod x y + y) := (ct t0).trans (rfl); rw [e0]; simpa only [Rep, Reps, Rep_cmpB] using this⟩
  | false =>
   exact ⟨_, _, _, ha', pick_r1 x y (hp.2.2.2 t0) t0, rfl, fun cv hc => by have := hc g.nx μ; have e0 : pick_0 x y = (Int.tmod x y) := (cf t0).trans (rfl); rw [e0]; simpa only [Rep, Reps, Rep_cmpB] using this⟩
 ·exact callR_ok _ _ _ _ _ h
theorem pickS_tch : ∀ args, Tch (pickS args) := by
 intro args
 unfold pickS
 split
 ·exact (Tch.req _).andThen fun _ => Tch.ret _
 ·exact callR_tch _ _
theorem aof_r0 (k : Int) (n a b c d : List UInt8) (v : Nat) (ph : Int) (w : Nat) (c0 : (!feq (fsub (cn w) (cn w)) (0 : Nat)) = false) (c1 : (!fgt (cn w) (0 : Nat)) = false) (c2 : (!decide (chk_0 k n a b c d v ph = (0 : Int))) = false) (c3 : decide (k = (1 : Int)) = true) (c4 : feq (fsub (fdiv (4607182418800017408 : Nat) (cn v)) (fdiv (4607182418800017408 : Nat) (cn v))) (0 : Nat) = true) (c5 : false = false) : PureP (AV.tup [AV.cpx true (fdiv (4607182418800017408 : Nat) (cn v)) (0 : Nat), AV.int false .i64 0]) (callR 69 [.agg [.int true .u8 k, .str true n, .str true a, .str true b, .str true c, .str true d, .raw true v, .int true .i64 ph], .raw true w] (G.on [false, false, false, true, true, true, false])) := eqq (q := (((((((True ∧ ((!feq (fsub (cn w) (cn w)) (0 : Nat)) = false)) ∧ ((!fgt (cn w) (0 : Nat)) = false)) ∧ ((!decide (chk_0 k n a b c d v ph = (0 : Int))) = false)) ∧ (decide (k = (1 : Int)) = true)) ∧ (decide (k = (1 : Int)) = true)) ∧ (feq (fsub (fdiv (4607182418800017408 : Nat) (cn v)) (fdiv (4607182418800017408 : Nat) (cn v))) (0 : Nat) = true)) ∧ (false = false))) (by kernel_rfl) ⟨⟨⟨⟨⟨⟨⟨trivial, c0⟩, c1⟩, c2⟩, c3⟩, c3⟩, c4⟩, c5⟩
theorem aof_r1 (k : Int) (n a b c d : List UInt8) (v : Nat) (ph : Int) (w : Nat) (c0 : (!feq (fsub (cn w) (cn w)) (0 : Nat)) = false) (c1 : (!fgt (cn w) (0 : Nat)) = false) (c2 : (!decide (chk_0 k n a b c d v ph = (0 : Int))) = false) (c3 : decide (k = (1 : Int)) = true) (c4 : feq (fsub (fdiv (4607182418800017408 : Nat) (cn v)) (fdiv (4607182418800017408 : Nat) (cn v))) (0 : Nat) = false) : PureP (AV.tup [AV.cpx false (0 : Nat) (0 : Nat), AV.int false .i64 6]) (callR 69 [.agg [.int true .u8 k, .str true n, .str true a, .str true b, .str true c, .str true d, .raw true v, .int true .i64 ph], .raw true w] (G.on [false, false, false, true, true, false])) := eqq (q := ((((((True ∧ ((!feq (fsub (cn w) (cn w)) (0 : Nat)) = false)) ∧ ((!fgt (cn w) (0 : Nat)) = false)) ∧ ((!decide (chk_0 k n a b c d v ph = (0 : Int))) = false)) ∧ (decide (k = (1 : Int)) = true)) ∧ (decide (k = (1 : Int)) = true)) ∧ (feq (fsub (fdiv (4607182418800017408 : Nat) (cn v)) (fdiv (4607182418800017408 : Nat) (cn v))) (0 : Nat) = false))) (by kernel_rfl) ⟨⟨⟨⟨⟨⟨trivial, c0⟩, c1⟩, c2⟩, c3⟩, c3⟩, c4⟩
theorem aof_r2 (k : Int) (n a b c d : List UInt8) (v : Nat) (ph : Int) (w : Nat) (c0 : (!feq (fsub (cn w) (cn w)) (0 : Nat)) = false) (c1 : (!fgt (cn w) (0 : Nat)) = false) (c2 : (!decide (chk_0 k n a b c d v ph = (0 : Int))) = false) (c3 : decide (k = (1 : Int)) = false) (c4 : decide (k = (8 : Int)) = true) (c5 : feq (fsub (fdiv (4607182418800017408 : Nat) (cn v)) (fdiv (4607182418800017408 : Nat) (cn v))) (0 : Nat) = true) (c6 : false = false) : PureP (AV.tup [AV.cpx true (fdiv (4607182418800017408 : Nat) (cn v)) (0 : Nat), AV.int false .i64 0]) (callR 69 [.agg [.int true .u8 k, .str true n, .str true a, .str true b, .str true c, .str true d, .raw true v, .int true .i64 ph], .raw true w] (G.on [false, false, false, false, true, true, false])) := eqq (q := (((((((True ∧ ((!feq (fsub (cn w) (cn w)) (0 : Nat)) = false)) ∧ ((!fgt (cn w) (0 : Nat)) = false)) ∧ ((!decide (chk_0 k n a b c d v ph = (0 : Int))) = false)) ∧ (decide (k = (1 : Int)) = false)) ∧ (decide (k = (8 : Int)) = true)) ∧ (feq (fsub (fdiv (4607182418800017408 : Nat) (cn v)) (fdiv (4607182418800017408 : Nat) (cn v))) (0 : Nat) = true)) ∧ (false = false))) (by kernel_rfl) ⟨⟨⟨⟨⟨⟨⟨trivial, c0⟩, c1⟩, c2⟩, c3⟩, c4⟩, c5⟩, c6⟩
theorem aof_r3 (k : Int) (n a b c d : List UInt8) (v : Nat) (ph : Int) (w : Nat) (c0 : (!feq (fsub (cn w) (cn w)) (0 : Nat)) = false) (c1 : (!fgt (cn w) (0 : Nat)) = false) (c2 : (!decide (chk_0 k n a b c d v ph = (0 : Int))) = false) (c3 : decide (k = (1 : Int)) = false) (c4 : decide (k = (8 : Int)) = true) (c5 : feq (fsub (fdiv (4607182418800017408 : Nat) (cn v)) (fdiv (4607182418800017408 : Nat) (cn v))) (0 : Nat) = false) : PureP (AV.tup [AV.cpx false (0 : Nat) (0 : Nat), AV.int false .i64 6]) (callR 69 [.agg [.int true .u8 k, .str true n, .str true a, .str true b, .str true c, .str true d, .raw true v, .int true .i64 ph], .raw true w] (G.on [false, false, false, false, true, false])) := eqq (q := ((((((True ∧ ((!feq (fsub (cn w) (cn w)) (0 : Nat)) = false)) ∧ ((!fgt (cn w) (0 : Nat)) = false)) ∧ ((!decide (chk_0 k n a b c d v ph = (0 : Int))) = false)) ∧ (decide (k = (1 : Int)) = false)) ∧ (decide (k = (8 : Int)) = true)) ∧ (feq (fsub (fdiv (4607182418800017408 : Nat) (cn v)) (fdiv (4607182418800017408 : Nat) (cn v))) (0 : Nat) = false))) (by kernel_rfl) ⟨⟨⟨⟨⟨⟨trivial, c0⟩, c1⟩, c2⟩, c3⟩, c4⟩, c5⟩
theorem aof_r4 (k : Int) (n a b c d : List UInt8) (v : Nat) (ph : Int) (w : Nat) (c0 : (!feq (fsub (cn w) (cn w)) (0 : Nat)) = false) (c1 : (!fgt (cn w) (0 : Nat)) = false) (c2 : (!decide (chk_0 k n a b c d v ph = (0 : Int))) = false) (c3 : decide (k = (1 : Int)) = false) (c4 : decide (k = (8 : Int)) = false) (c5 : decide (k = (2 : Int)) = true) (c6 : (true == decide (k = (2 : Int))) = true) (c7 : (!feq (fsub (fmul (cn w) (cn v)) (fmul (cn w) (cn v))) (0 : Nat)) = false) (c8 : true = true) (c9 : (!feq (fsub (fneg (fdiv (4607182418800017408 : Nat) (fmul (cn w) (cn v)))) (fneg (fdiv (4607182418800017408 : Nat) (fmul (cn w) (cn v))))) (0 : Nat)) = false) : PureP (AV.tup [AV.cpx true (0 : Nat) (fneg (fdiv (4607182418800017408 : Nat) (fmul (cn w) (cn v)))), AV.int false .i64 0]) (callR 69 [.agg [.int true .u8 k, .str true n, .str true a, .str true b, .str true c, .str true d, .raw true v, .int true .i64 ph], .raw true w] (G.on [false, false, false, false, false, true, true, true, false, true, false])) := eqq (q := (((((((((((True ∧ ((!feq (fsub (cn w) (cn w)) (0 : Nat)) = false)) ∧ ((!fgt (cn w) (0 : Nat)) = false)) ∧ ((!decide (chk_0 k n a b c d v ph = (0 : Int))) = false)) ∧ (decide (k = (1 : Int)) = false)) ∧ (decide (k = (8 : Int)) = false)) ∧ (decide (k = (2 : Int)) = true)) ∧ (decide (k = (2 : Int)) = true)) ∧ ((true == decide (k = (2 : Int))) = true)) ∧ ((!feq (fsub (fmul (cn w) (cn v)) (fmul (cn w) (cn v))) (0 : Nat)) = false)) ∧ (true = true)) ∧ ((!feq (fsub (fneg (fdiv (4607182418800017408 : Nat) (fmul (cn w) (cn v)))) (fneg (fdiv (4607182418800017408 : Nat) (fmul (cn w) (cn v))))) (0 : Nat)) = false))) (by kernel_rfl) ⟨⟨⟨⟨⟨⟨⟨⟨⟨⟨⟨trivial, c0⟩, c1⟩, c2⟩, c3⟩, c4⟩, c5⟩, c5⟩, c6⟩, c7⟩, c8⟩, c9⟩
theorem aof_r5 (k : Int) (n a b c d : List UInt8) (v : Nat) (ph : Int) (w : Nat) (c0 : (!feq (fsub (cn w) (cn w)) (0 : Nat)) = false) (c1 : (!fgt (cn w) (0 : Nat)) = false) (c2 : (!decide (chk_0 k n a b c d v ph = (0 : Int))) = false) (c3 : decide (k = (1 : Int)) = false) (c4 : decide (k = (8 : Int)) = false) (c5 : decide (k = (2 : Int)) = true) (c6 : (true == decide (k = (2 : Int))) = true) (c7 : (!feq (fsub (fmul (cn w) (cn v)) (fmul (cn w) (cn v))) (0 : Nat)) = false) (c8 : true = true) (c9 : (!feq (fsub (fneg (fdiv (4607182418800017408 : Nat) (fmul (cn w) (cn v)))) (fneg (fdiv (4607182418800017408 : Nat) (fmul (cn w) (cn v))))) (0 : Nat)) = true) : PureP (AV.tup [AV.cpx false (0 : Nat) (0 : Nat), AV.int false .i64 6]) (callR 69 [.agg [.int true .u8 k, .str true n, .str true a, .str true b, .str true c, .str true d, .raw true v, .int true .i64 ph], .raw true w] (G.on [false, false, false, false, false, true, true, true, false, true, true])) := eqq (q := (((((((((((True ∧ ((!feq (fsub (cn w) (cn w)) (0 : Nat)) = false)) ∧ ((!fgt (cn w) (0 : Nat)) = false)) ∧ ((!decide (chk_0 k n a b c d v ph = (0 : Int))) = false)) ∧ (decide (k = (1 : Int)) = false)) ∧ (decide (k = (8 : Int)) = false)) ∧ (decide (k = (2 : Int)) = true)) ∧ (decide (k = (2 : Int)) = true)) ∧ ((true == decide (k = (2 : Int))) = true)) ∧ ((!feq (fsub (fmul (cn w) (cn v)) (fmul (cn w) (cn v))) (0 : Nat)) = false)) ∧ (true = true)) ∧ ((!feq (fsub (fneg (fdiv (4607182418800017408 : Nat) (fmul (cn w) (cn v)))) (fneg (fdiv (4607182418800017408 : Nat) (fmul (cn w) (cn v))))) (0 : Nat)) = true))) (by kernel_rfl) ⟨⟨⟨⟨⟨⟨⟨⟨⟨⟨⟨trivial, c0⟩, c1⟩, c2⟩, c3⟩, c4⟩, c5⟩, c5⟩, c6⟩, c7⟩, c8⟩, c9⟩
theorem aof_r6 (k : Int) (n a b c d : List UInt8) (v : Nat) (ph : Int) (w : Nat) (c0 : (!feq (fsub (cn w) (cn w)) (0 : Nat)) = false) (c1 : (!fgt (cn w) (0 : Nat)) = false) (c2 : (!decide (chk_0 k n a b c d v ph = (0 : Int))) = false) (c3 : decide (k = (1 : Int)) = false) (c4 : decide (k = (8 : Int)) = false) (c5 : decide (k = (2 : Int)) = true) (c6 : (true == decide (k = (2 : Int))) = true) (c7 : (!feq (fsub (fmul (cn w) (cn v)) (fmul (cn w) (cn v))) (0 : Nat)) = true) : PureP (AV.tup [AV.cpx false (0 : Nat) (0 : Nat), AV.int false .i64 6]) (callR 69 [.agg [.int true .u8 k, .str true n, .str true a, .str true b, .str true c, .str true d, .raw true v, .int true .i64 ph], .raw true w] (G.on [false, false, false, false, false, true, true, true, true])) := eqq (q := (((((((((True ∧ ((!feq (fsub (cn w) (cn w)) (0 : Nat)) = false)) ∧ ((!fgt (cn w) (0 : Nat)) = false)) ∧ ((!decide (chk_0 k n a b c d v ph = (0 : Int))) = false)) ∧ (decide (k = (1 : Int)) = false)) ∧ (decide (k = (8 : Int)) = false)) ∧ (decide (k = (2 : Int)) = true)) ∧ (decide (k = (2 : Int)) = true)) ∧ ((true == decide (k = (2 : Int))) = true)) ∧ ((!feq (fsub (fmul (cn w) (cn v)) (fmul (cn w) (cn v))) (0 : Nat)) = true))) (by kernel_rfl) ⟨⟨⟨⟨⟨⟨⟨⟨⟨trivial, c0⟩, c1⟩, c2⟩, c3⟩, c4⟩, c5⟩, c5⟩, c6⟩, c7⟩
theorem aof_r7 (k : Int) (n a b c d : List UInt8) (v : Nat) (ph : Int) (w : Nat) (c0 : (!feq (fsub (cn w) (cn w)) (0 : Nat)) = false) (c1 : (!fgt (cn w) (0 : Nat)) = false) (c2 : (!decide (chk_0 k n a b c d v ph = (0 : Int))) = false) (c3 : decide (k = (1 : Int)) = false) (c4 : decide (k = (8 : Int)) = false) (c5 : decide (k = (2 : Int)) = true) (c6 : (true == decide (k = (2 : Int))) = false) (c7 : (!feq (fsub (fmul (cn w) (cn v)) (fmul (cn w) (cn v))) (0 : Nat)) = false) (c8 : true = true) : PureP (AV.tup [AV.cpx true (0 : Nat) (fmul (cn w) (cn v)), AV.int false .i64 0]) (callR 69 [.agg [.int true .u8 k, .str true n, .str true a, .str true b, .str true c, .str true d, .raw true v, .int true .i64 ph], .raw true w] (G.on [false, false, false, false, false, true, true, false, false, true, false])) := eqq (q := (((((((((((True ∧ ((!feq (fsub (cn w) (cn w)) (0 : Nat)) = false)) ∧ ((!fgt (cn w) (0 : Nat)) = false)) ∧ ((!decide (chk_0 k n a b c d v ph = (0 : Int))) = false)) ∧ (decide (k = (1 : Int)) = false)) ∧ (decide (k = (8 : Int)) = false)) ∧ (decide (k = (2 : Int)) = true)) ∧ (decide (k = (2 : Int)) = true)) ∧ ((true == decide (k = (2 : Int))) = false)) ∧ ((!feq (fsub (fmul (cn w) (cn v)) (fmul (cn w) (cn v))) (0 : Nat)) = false)) ∧ (true = true)) ∧ ((!feq (fsub (fmul (cn w) (cn v)) (fmul (cn w) (cn v))) (0 : Nat)) = false))) (by kernel_rfl) ⟨⟨⟨⟨⟨⟨⟨⟨⟨⟨⟨trivial, c0⟩, c1⟩, c2⟩, c3⟩, c4⟩, c5⟩, c5⟩, c6⟩, c7⟩, c8⟩, c7⟩
theorem aof_r8 (k : Int) (n a b c d : List UInt8) (v : Nat) (ph : Int) (w : Nat) (c0 : (!feq (fsub (cn w) (cn w)) (0 : Nat)) = false) (c1 : (!fgt (cn w) (0 : Nat)) = false) (c2 : (!decide (chk_0 k n a b c d v ph = (0 : Int))) = false) (c3 : decide (k = (1 : Int)) = false) (c4 : decide (k = (8 : Int)) = false) (c5 : decide (k = (2 : Int)) = true) (c6 : (true == decide (k = (2 : Int))) = false) (c7 : (!feq (fsub (fmul (cn w) (cn v)) (fmul (cn w) (cn v))) (0 : Nat)) = true) : PureP (AV.tup [AV.cpx false (0 : Nat) (0 : Nat), AV.int false .i64 6]) (callR 69 [.agg [.int true .u8 k, .str true n, .str true a, .str true b, .str true c, .str true d, .raw true v, .int true .i64 ph], .raw true w] (G.on [false, false, false, false, false, true, true, false, true])) := eqq (q := (((((((((True ∧ ((!feq (fsub (cn w) (cn w)) (0 : Nat)) = false)) ∧ ((!fgt (cn w) (0 : Nat)) = false)) ∧ ((!decide (chk_0 k n a b c d v ph = (0 : Int))) = false)) ∧ (decide (k = (1 : Int)) = false)) ∧ (decide (k = (8 : Int)) = false)) ∧ (decide (k = (2 : Int)) = true)) ∧ (decide (k = (2 : Int)) = true)) ∧ ((true == decide (k = (2 : Int))) = false)) ∧ ((!feq (fsub (fmul (cn w) (cn v)) (fmul (cn w) (cn v))) (0 : Nat)) = true))) (by kernel_rfl) ⟨⟨⟨⟨⟨⟨⟨⟨⟨trivial, c0⟩, c1⟩, c2⟩, c3⟩, c4⟩, c5⟩, c5⟩, c6⟩, c7⟩
theorem aof_r9 (k : Int) (n a b c d : List UInt8) (v : Nat) (ph : Int) (w : Nat) (c0 : (!feq (fsub (cn w) (cn w)) (0 : Nat)) = false) (c1 : (!fgt (cn w) (0 : Nat)) = false) (c2 : (!decide (chk_0 k n a b c d v ph = (0 : Int))) = false) (c3 : decide (k = (1 : Int)) = false) (c4 : decide (k = (8 : Int)) = false) (c5 : decide (k = (2 : Int)) = false) (c6 : decide (k = (3 : Int)) = true) (c7 : (true == decide (k = (2 : Int))) = true) (c8 : (!feq (fsub (fmul (cn w) (cn v)) (fmul (cn w) (cn v))) (0 : Nat)) = false) (c9 : true = true) (c10 : (!feq (fsub (fneg (fdiv (4607182418800017408 : Nat) (fmul (cn w) (cn v)))) (fneg (fdiv (4607182418800017408 : Nat) (fmul (cn w) (cn v))))) (0 : Nat)) = false) : PureP (AV.tup [AV.cpx true (0 : Nat) (fneg (fdiv (4607182418800017408 : Nat) (fmul (cn w) (cn v)))), AV.int false .i64 0]) (callR 69 [.agg [.int true .u8 k, .str true n, .str true a, .str true b, .str true c, .str true d, .raw true v, .int true .i64 ph], .raw true w] (G.on [false, false, false, false, false, false, true, true, false, true, false])) := eqq (q := (((((((((((True ∧ ((!feq (fsub (cn w) (cn w)) (0 : Nat)) = false)) ∧ ((!fgt (cn w) (0 : Nat)) = false)) ∧ ((!decide (chk_0 k n a b c d v ph = (0 : Int))) = false)) ∧ (decide (k = (1 : Int)) = false)) ∧ (decide (k = (8 : Int)) = false)) ∧ (decide (k = (2 : Int)) = false)) ∧ (decide (k = (3 : Int)) = true)) ∧ ((true == decide (k = (2 : Int))) = true)) ∧ ((!feq (fsub (fmul (cn w) (cn v)) (fmul (cn w) (cn v))) (0 : Nat)) = false)) ∧ (true = true)) ∧ ((!feq (fsub (fneg (fdiv (4607182418800017408 : Nat) (fmul (cn w) (cn v)))) (fneg (fdiv (4607182418800017408 : Nat) (fmul (cn w) (cn v))))) (0 : Nat)) = false))) (by kernel_rfl) ⟨⟨⟨⟨⟨⟨⟨⟨⟨⟨⟨trivial, c0⟩, c1⟩, c2⟩, c3⟩, c4⟩, c5⟩, c6⟩, c7⟩, c8⟩, c9⟩, c10⟩
end Go.Proofs.Ytmmogbldndklnaa
