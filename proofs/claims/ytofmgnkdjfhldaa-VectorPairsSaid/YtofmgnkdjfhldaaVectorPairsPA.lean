/- VectorPairs: a part: summaries of functions that the statement reaches, printed by program, checked by the kernel. -/
import Derived.ProofKit
import Derived.OpenShut
import Derived.KernelRfl
import Derived.SizedLaws
import Derived.Test.YtofmgnkdjfhldaaProg
import Derived.Test.YtofmgnkdjfhldaaSm3
namespace Go.Proofs.Ytofmgnkdjfhldaa
open Go.ChangeShapes Go.WideShapes Go.ChangeAt Go.RowKit Go.Sx
set_option linter.unusedVariables false
set_option linter.unusedSimpArgs false
set_option maxRecDepth 100000

theorem cI {P : Program} {c : Code} {n B K K' : Nat} {fr : Fr} {H : T ABk} {p : Bool} {X Y : Po} (h1 : p = true → GoesB P c n B K K' fr H X) (h2 : p = false → GoesB P c n B K K' fr H Y) : GoesB P c n B K K' fr H fun e fr' H' => cond p (X e fr' H') (Y e fr' H') := by
 cases p
 ·exact h2 rfl
 ·exact h1 rfl
theorem cD {P : Program} {c : Code} {n B K K' : Nat} {fr : Fr} {H : T ABk} {p : Prop} {i : Decidable p} {X Y : Po} (h1 : p → decide p = true → GoesB P c n B K K' fr H X) (h2 : ¬p → decide p = false → GoesB P c n B K K' fr H Y) : GoesB P c n B K K' fr H fun e fr' H' => cond (decide p) (X e fr' H') (Y e fr' H') :=
 cI (fun t => h1 (of_decide_eq_true t) t) (fun t => h2 (of_decide_eq_false t) t)
abbrev sL (g n : Nat) : AV := .slc true true ⟨false, g, 0, 0⟩ n
abbrev sF (g n : Nat) : AV := .slc false false ⟨false, g, 0, 0⟩ n
abbrev iT (x : Int) : AV := .int true .i64 x
abbrev cK (o : Bool) (n : Nat) (p q : Nat → Nat) : ABk := .cells o 1 n (.fn fun j => [.cpx true (p j) (q j)])
theorem ai {p q : Prop} (h : p) (k : q) : p ∧ q := ⟨h, k⟩
noncomputable def gam0 : Known := kc 61 toBits (kc 47 ofBits (kn))
theorem gam0_ok : KnownOk Try.prog gam0 := kc_ok ((toBits_is Try.prog).callIs Try.func61 (by kernel_rfl) (by kernel_rfl) (by kernel_rfl) (by kernel_rfl)) (kc_ok ((ofBits_is Try.prog).callIs Try.func47 (by kernel_rfl) (by kernel_rfl) (by kernel_rfl) (by kernel_rfl)) (kn_ok))
theorem gam0_tch : KnownT gam0 := kc_tch Tch.toBits (kc_tch Tch.ofBits (kn_tch))
noncomputable def call0 : Calls' := Sx.runN Try.prog gam0 (regionC Try.prog) 1000 50
theorem call0_ok : CallOk Try.prog call0 := engineC gam0_ok gam0_tch (by kernel_rfl) (by kernel_rfl) 1000 50
theorem call0_tch : CallT call0 := runA_tch gam0_tch (fun _ _ _ h => by cases h) (fun call hc n l fr => regionC_tch hc n l fr) 50
theorem call0_reg (n : Nat) : RegionOk Try.prog (regionC Try.prog call0 n) n := runN_regionC gam0_ok gam0_tch (by kernel_rfl) (by kernel_rfl) 1000 50 n
noncomputable abbrev piececall0 (f : Func) (c : Code) (fr : Fr) (H : T ABk) (K : Nat) (path : List Bool) : Res (Ex × Fr) :=
 codeA Try.prog call0 (regionC Try.prog call0 f.ntmps) noLoops f.ntmps 1000 c fr ⟨H, K, [], path, True⟩


theorem rc0 {fn : Func} {K K' B : Nat} {e : Ex} {F : List (Nat × AV)} {Hl : List (Nat × ABk)} {c : Code} {fr : Fr} {H : T ABk} {path : List Bool} (h : PieceN K' e F Hl (piececall0 fn c fr H K path)) (hB : B ≤ K) : GoesB Try.prog c fn.ntmps B K K' fr H fun e' fr' H' => e' = e ∧ fr' = frL F ∧ H' = hpL Hl := GoesB.runN call0_ok (call0_reg _) (LoopsIn.none _ _ _) h hB
/-- the error of two vectors -/
def vmay (n m : Nat) : Int := bif decide ((65536 : Int) < (n : Int)) then 3 else bif decide ((65536 : Int) < (m : Int)) then 3 else bif decide ((n : Int) = (m : Int)) then 0 else 4
def n1R (a b : Nat → Nat) : Nat → Nat
 | 0 => 0
 | n + 1 => fadd (n1R a b n) (fadd (fabs (a n)) (fabs (b n)))
def nmR (a b : Nat → Nat) : Nat → Nat
 | 0 => 0
 | n + 1 => bif fgt (fadd (fabs (a n)) (fabs (b n))) (nmR a b n) then fadd (fabs (a n)) (fabs (b n)) else nmR a b n
def dotR (a b x y : Nat → Nat) : Nat → Nat × Nat
 | 0 => (0, 0)
 | n + 1 => (fadd (dotR a b x y n).1 (fsub (fmul (a n) (x n)) (fmul (b n) (y n))), fadd (dotR a b x y n).2 (fadd (fmul (a n) (y n)) (fmul (b n) (x n))))
theorem low_c {s : Bool} {p q : Nat} {u : AV} (hu : u ∈ [AV.cpx s p q]) : u.low 0 = true := by simp at hu; subst hu; rfl
theorem myW_r0 (n m : Nat) (a b x y : Nat → Nat) (c0 : decide (65536 < (↑n : Int)) = true) : PieceN 2 (Ex.ret) [(4, .int false .i64 3)] [] (piececall0 Try.f56 ((bodyOf Try.f56)) (frameOf [slcV 0 n, slcV 1 m] 0 .e) (hpL [(0, cK false n a b), (1, cK false m x y)]) 2 [true]) := eqn (by kernel_rfl) (ai trivial c0)
theorem myW_r1 (n m : Nat) (a b x y : Nat → Nat) (c0 : decide (65536 < (↑n : Int)) = false) (c1 : decide (65536 < (↑m : Int)) = true) : PieceN 2 (Ex.ret) [(4, .int false .i64 3)] [] (piececall0 Try.f56 ((bodyOf Try.f56)) (frameOf [slcV 0 n, slcV 1 m] 0 .e) (hpL [(0, cK false n a b), (1, cK false m x y)]) 2 [false, true]) := eqn (by kernel_rfl) (ai (ai trivial c0) c1)
theorem myW_r2 (n m : Nat) (a b x y : Nat → Nat) (c0 : decide (65536 < (↑n : Int)) = false) (c1 : decide (65536 < (↑m : Int)) = false) (c2 : (!decide ((↑n : Int) = (↑m : Int))) = false) : PieceN 2 (Ex.ret) [(4, .int false .i64 0)] [] (piececall0 Try.f56 ((bodyOf Try.f56)) (frameOf [slcV 0 n, slcV 1 m] 0 .e) (hpL [(0, cK false n a b), (1, cK false m x y)]) 2 [false, false, false]) := eqn (by kernel_rfl) (ai (ai (ai trivial c0) c1) c2)
theorem myW_r3 (n m : Nat) (a b x y : Nat → Nat) (c0 : decide (65536 < (↑n : Int)) = false) (c1 : decide (65536 < (↑m : Int)) = false) (c2 : (!decide ((↑n : Int) = (↑m : Int))) = true) : PieceN 2 (Ex.ret) [(4, .int false .i64 4)] [] (piececall0 Try.f56 ((bodyOf Try.f56)) (frameOf [slcV 0 n, slcV 1 m] 0 .e) (hpL [(0, cK false n a b), (1, cK false m x y)]) 2 [false, false, true]) := eqn (by kernel_rfl) (ai (ai (ai trivial c0) c1) c2)
theorem myW (B : Nat) (hB : B ≤ 2) (n m : Nat) (a b x y : Nat → Nat) : GoesB Try.prog ((bodyOf Try.f56)) Try.f56.ntmps B 2 2 (frameOf [slcV 0 n, slcV 1 m] 0 .e) (hpL [(0, cK false n a b), (1, cK false m x y)]) fun e fr' H' => (cond (decide (65536 < (↑n : Int))) (e = .ret ∧ fr' = frL [(4, .int false .i64 3)] ∧ H' = hpL []) (cond (decide (65536 < (↑m : Int))) (e = .ret ∧ fr' = frL [(4, .int false .i64 3)] ∧ H' = hpL []) (cond (decide ((↑n : Int) = (↑m : Int))) (e = .ret ∧ fr' = frL [(4, .int false .i64 0)] ∧ H' = hpL []) (e = .ret ∧ fr' = frL [(4, .int false .i64 4)] ∧ H' = hpL [])))) := cD (fun q0 t0 => rc0 (myW_r0 n m a b x y t0) hB) (fun q0 t0 => cD (fun q1 t1 => rc0 (myW_r1 n m a b x y t0 t1) hB) (fun q1 t1 => cD (fun q2 t2 => rc0 (myW_r2 n m a b x y t0 t1 (by rw [t2]; rfl)) hB) (fun q2 t2 => rc0 (myW_r3 n m a b x y t0 t1 (by rw [t2]; rfl)) hB)))
theorem cjA_r0 (n : Nat) (a b : Nat → Nat) : PieceN 1 (Ex.normal) [(0, .slc true false ⟨false, 0, 0, 0⟩ n)] [(0, cK false n a b)] (piececall0 Try.f29 (nav [0] (bodyOf Try.f29)) (frameOf [slcV 0 n] 0 .e) (hpL [(0, cK false n a b)]) 1 []) := eqn (by kernel_rfl) trivial
theorem cjA (B : Nat) (hB : B ≤ 1) (n : Nat) (a b : Nat → Nat) : GoesB Try.prog (nav [0] (bodyOf Try.f29)) Try.f29.ntmps B 1 1 (frameOf [slcV 0 n] 0 .e) (hpL [(0, cK false n a b)]) fun e fr' H' => (e = .normal ∧ fr' = frL [(0, .slc true false ⟨false, 0, 0, 0⟩ n)] ∧ H' = hpL [(0, cK false n a b)]) := rc0 (cjA_r0 n a b) hB
theorem cjC_r0 (n : Nat) (a b : Nat → Nat) (c0 : 0 ≤ (↑n : Int)) (c1 : (↑n : Int) ≤ (↑n : Int)) (c2 : 16 * (↑n : Int) ≤ 140737488355328) (c3 : (↑n : Int) ≤ 9223372036854775807) : PieceN 2 (Ex.normal) [(0, .slc true false ⟨false, 0, 0, 0⟩ n), (3, sL 1 n)] [(0, cK false n a b), (1, .cells true 1 n (.fn fun x => [.cpx false 0 0]))] (piececall0 Try.f29 (nav [1,0] (bodyOf Try.f29)) (frL [(0, slcV 0 n)]) (hpL [(0, cK false n a b)]) 1 []) := eqn (by kernel_rfl) (ai trivial (ai c0 (ai c1 (ai c2 c3))))
theorem cjC (B : Nat) (hB : B ≤ 1) (n : Nat) (a b : Nat → Nat) (x0 : (16 * (↑n : Int) ≤ 140737488355328)) (x1 : ((↑n : Int) ≤ 9223372036854775807)) : GoesB Try.prog (nav [1,0] (bodyOf Try.f29)) Try.f29.ntmps B 1 2 (frL [(0, slcV 0 n)]) (hpL [(0, cK false n a b)]) fun e fr' H' => (e = .normal ∧ fr' = frL [(0, .slc true false ⟨false, 0, 0, 0⟩ n), (3, sL 1 n)] ∧ H' = hpL [(0, cK false n a b), (1, .cells true 1 n (.fn fun x => [.cpx false 0 0]))]) := rc0 (cjC_r0 n a b (by omega) (by omega) x0 x1) hB
theorem cjD_r0 (n : Nat) (a b : Nat → Nat) (q : Nat → List AV) : PieceN 2 (Ex.normal) [(3, sL 1 n), (9, .slc true false ⟨false, 0, 0, 0⟩ n), (10, iT (↑n : Int)), (11, .int false .i64 0)] [(0, cK false n a b), (1, .cells true 1 n (Cont.fn q))] (piececall0 Try.f29 (nav [1,1,0,0] (bodyOf Try.f29)) (frL [(0, slcV 0 n), (3, sL 1 n)]) (hpL [(0, cK false n a b), (1, .cells true 1 (n) (.fn q))]) 2 []) := eqn (by kernel_rfl) trivial
theorem cjD (B : Nat) (hB : B ≤ 2) (n i : Nat) (a b : Nat → Nat) (q : Nat → List AV) : GoesB Try.prog (nav [1,1,0,0] (bodyOf Try.f29)) Try.f29.ntmps B 2 2 (frL [(0, slcV 0 n), (3, sL 1 n)]) (hpL [(0, cK false n a b), (1, .cells true 1 (n) (.fn q))]) fun e fr' H' => (e = .normal ∧ fr' = frL [(3, sL 1 n), (9, .slc true false ⟨false, 0, 0, 0⟩ n), (10, iT (↑n : Int)), (11, .int false .i64 0)] ∧ H' = hpL [(0, cK false n a b), (1, .cells true 1 n (Cont.fn q))]) := rc0 (cjD_r0 n a b q) hB
theorem cjL_r0 (n i : Nat) (a b : Nat → Nat) (q : Nat → List AV) (c0 : decide ((↑i : Int) < (↑n : Int)) = true) (c1 : 0 ≤ (↑i : Int)) (c2 : (↑i : Int) < (↑n : Int)) (c3 : 0 + i < n) (c4 : 0 + i < n) (c5 : 1 ≤ 1) (c6 : -9223372036854775808 ≤ (↑i : Int) + 1) (c7 : (↑i : Int) + 1 ≤ (9223372036854775807 : Int)) : PieceN 2 (Ex.normal) [(3, sL 1 n), (9, .slc true false ⟨false, 0, 0, 0⟩ n), (10, iT (↑n : Int)), (11, iT ((↑i : Int) + 1))] [(0, cK false n a b), (1, .cells true 1 n (.fn fun j => bif Nat.beq j (0 + i) then [.cpx true (a (0 + i)) (fneg (b (0 + i)))] else q j))] (piececall0 Try.f29 (nav [1,1,0,1,0,0] (bodyOf Try.f29)) (frL [(3, sL 1 n), (9, slcV 0 n), (10, iT n), (11, iT i)]) (hpL [(0, cK false n a b), (1, .cells true 1 (n) (.fn q))]) 2 [true]) := eqn (by kernel_rfl) (ai (ai (ai (ai (ai (ai (ai trivial c0) (ai c1 c2)) c3) (ai c1 c2)) c4) c5) (ai c6 c7))
theorem cjL_r1 (n i : Nat) (a b : Nat → Nat) (q : Nat → List AV) (c0 : decide ((↑i : Int) < (↑n : Int)) = false) : PieceN 2 (Ex.exit 0) [(3, sL 1 n), (9, .slc true false ⟨false, 0, 0, 0⟩ n), (10, iT (↑n : Int)), (11, iT (↑i : Int))] [(0, cK false n a b), (1, .cells true 1 n (Cont.fn q))] (piececall0 Try.f29 (nav [1,1,0,1,0,0] (bodyOf Try.f29)) (frL [(3, sL 1 n), (9, slcV 0 n), (10, iT n), (11, iT i)]) (hpL [(0, cK false n a b), (1, .cells true 1 (n) (.fn q))]) 2 [false]) := eqn (by kernel_rfl) (ai trivial c0)
theorem cjL (B : Nat) (hB : B ≤ 2) (n i : Nat) (a b : Nat → Nat) (q : Nat → List AV) (x0 : ((decide ((↑i : Int) < (↑n : Int))) = true → ((↑i : Int) + 1 ≤ (9223372036854775807 : Int)))) : GoesB Try.prog (nav [1,1,0,1,0,0] (bodyOf Try.f29)) Try.f29.ntmps B 2 2 (frL [(3, sL 1 n), (9, slcV 0 n), (10, iT n), (11, iT i)]) (hpL [(0, cK false n a b), (1, .cells true 1 (n) (.fn q))]) fun e fr' H' => (cond (decide ((↑i : Int) < (↑n : Int))) (e = .normal ∧ fr' = frL [(3, sL 1 n), (9, .slc true false ⟨false, 0, 0, 0⟩ n), (10, iT (↑n : Int)), (11, iT ((↑i : Int) + 1))] ∧ H' = hpL [(0, cK false n a b), (1, .cells true 1 n (.fn fun j => bif Nat.beq j (0 + i) then [.cpx true (a (0 + i)) (fneg (b (0 + i)))] else q j))]) (e = .exit 0 ∧ fr' = frL [(3, sL 1 n), (9, .slc true false ⟨false, 0, 0, 0⟩ n), (10, iT (↑n : Int)), (11, iT (↑i : Int))] ∧ H' = hpL [(0, cK false n a b), (1, .cells true 1 n (Cont.fn q))])) := cD (fun q0 t0 => rc0 (cjL_r0 n i a b q t0 (by omega) (by omega) (by omega) (by omega) (by omega) (by omega) (x0 t0)) hB) (fun q0 t0 => rc0 (cjL_r1 n i a b q t0) hB)
theorem cjZ_r0 (n : Nat) (q : Nat → List AV) : PieceN 2 (Ex.ret) [(2, sL 1 n)] [(1, .cells true 1 n (Cont.fn q))] (piececall0 Try.f29 (nav [1,1,1] (bodyOf Try.f29)) (frL [(3, sL 1 n)]) (hpL [(1, .cells true 1 (n) (.fn q))]) 2 []) := eqn (by kernel_rfl) trivial
theorem cjZ (B : Nat) (hB : B ≤ 2) (n i : Nat) (a b : Nat → Nat) (q : Nat → List AV) : GoesB Try.prog (nav [1,1,1] (bodyOf Try.f29)) Try.f29.ntmps B 2 2 (frL [(3, sL 1 n)]) (hpL [(1, .cells true 1 (n) (.fn q))]) fun e fr' H' => (e = .ret ∧ fr' = frL [(2, sL 1 n)] ∧ H' = hpL [(1, .cells true 1 n (Cont.fn q))]) := rc0 (cjZ_r0 n q) hB
theorem noA_r0 (n : Nat) (a b : Nat → Nat) : PieceN 1 (Ex.normal) [(0, .slc true false ⟨false, 0, 0, 0⟩ n)] [(0, cK false n a b)] (piececall0 Try.f35 (nav [0] (bodyOf Try.f35)) (frameOf [slcV 0 n] 0 .e) (hpL [(0, cK false n a b)]) 1 []) := eqn (by kernel_rfl) trivial
theorem noA (B : Nat) (hB : B ≤ 1) (n : Nat) (a b : Nat → Nat) : GoesB Try.prog (nav [0] (bodyOf Try.f35)) Try.f35.ntmps B 1 1 (frameOf [slcV 0 n] 0 .e) (hpL [(0, cK false n a b)]) fun e fr' H' => (e = .normal ∧ fr' = frL [(0, .slc true false ⟨false, 0, 0, 0⟩ n)] ∧ H' = hpL [(0, cK false n a b)]) := rc0 (noA_r0 n a b) hB
theorem noC_r0 (n : Nat) (a b : Nat → Nat) : PieceN 1 (Ex.normal) [(0, .slc true false ⟨false, 0, 0, 0⟩ n), (3, .flt false 0)] [(0, cK false n a b)] (piececall0 Try.f35 (nav [1,0] (bodyOf Try.f35)) (frL [(0, slcV 0 n)]) (hpL [(0, cK false n a b)]) 1 []) := eqn (by kernel_rfl) trivial
theorem noC (B : Nat) (hB : B ≤ 1) (n : Nat) (a b : Nat → Nat) : GoesB Try.prog (nav [1,0] (bodyOf Try.f35)) Try.f35.ntmps B 1 1 (frL [(0, slcV 0 n)]) (hpL [(0, cK false n a b)]) fun e fr' H' => (e = .normal ∧ fr' = frL [(0, .slc true false ⟨false, 0, 0, 0⟩ n), (3, .flt false 0)] ∧ H' = hpL [(0, cK false n a b)]) := rc0 (noC_r0 n a b) hB
theorem noD_r0 (n s : Nat) (a b : Nat → Nat) : PieceN 1 (Ex.normal) [(3, .flt true s), (6, .slc true false ⟨false, 0, 0, 0⟩ n), (7, iT (↑n : Int)), (8, .int false .i64 0)] [(0, cK false n a b)] (piececall0 Try.f35 (nav [1,1,0,0] (bodyOf Try.f35)) (frL [(0, slcV 0 n), (3, .flt true s)]) (hpL [(0, cK false n a b)]) 1 []) := eqn (by kernel_rfl) trivial
theorem noD (B : Nat) (hB : B ≤ 1) (n i s : Nat) (a b : Nat → Nat) : GoesB Try.prog (nav [1,1,0,0] (bodyOf Try.f35)) Try.f35.ntmps B 1 1 (frL [(0, slcV 0 n), (3, .flt true s)]) (hpL [(0, cK false n a b)]) fun e fr' H' => (e = .normal ∧ fr' = frL [(3, .flt true s), (6, .slc true false ⟨false, 0, 0, 0⟩ n), (7, iT (↑n : Int)), (8, .int false .i64 0)] ∧ H' = hpL [(0, cK false n a b)]) := rc0 (noD_r0 n s a b) hB
theorem noL_r0 (n i s : Nat) (a b : Nat → Nat) (c0 : decide ((↑i : Int) < (↑n : Int)) = true) (c1 : 0 ≤ (↑i : Int)) (c2 : (↑i : Int) < (↑n : Int)) (c3 : 0 + i < n) (c4 : -9223372036854775808 ≤ (↑i : Int) + 1) (c5 : (↑i : Int) + 1 ≤ (9223372036854775807 : Int)) : PieceN 1 (Ex.normal) [(3, .flt true (fadd s (fadd (fabs (a (0 + i))) (fabs (b (0 + i)))))), (6, .slc true false ⟨false, 0, 0, 0⟩ n), (7, iT (↑n : Int)), (8, iT ((↑i : Int) + 1))] [(0, cK false n a b)] (piececall0 Try.f35 (nav [1,1,0,1,0,0] (bodyOf Try.f35)) (frL [(3, .flt true s), (6, slcV 0 n), (7, iT n), (8, iT i)]) (hpL [(0, cK false n a b)]) 1 [true]) := eqn (by kernel_rfl) (ai (ai (ai (ai trivial c0) (ai c1 c2)) c3) (ai c4 c5))
theorem noL_r1 (n i s : Nat) (a b : Nat → Nat) (c0 : decide ((↑i : Int) < (↑n : Int)) = false) : PieceN 1 (Ex.exit 0) [(3, .flt true s), (6, .slc true false ⟨false, 0, 0, 0⟩ n), (7, iT (↑n : Int)), (8, iT (↑i : Int))] [(0, cK false n a b)] (piececall0 Try.f35 (nav [1,1,0,1,0,0] (bodyOf Try.f35)) (frL [(3, .flt true s), (6, slcV 0 n), (7, iT n), (8, iT i)]) (hpL [(0, cK false n a b)]) 1 [false]) := eqn (by kernel_rfl) (ai trivial c0)
theorem noL (B : Nat) (hB : B ≤ 1) (n i s : Nat) (a b : Nat → Nat) (x0 : ((decide ((↑i : Int) < (↑n : Int))) = true → ((↑i : Int) + 1 ≤ (9223372036854775807 : Int)))) : GoesB Try.prog (nav [1,1,0,1,0,0] (bodyOf Try.f35)) Try.f35.ntmps B 1 1 (frL [(3, .flt true s), (6, slcV 0 n), (7, iT n), (8, iT i)]) (hpL [(0, cK false n a b)]) fun e fr' H' => (cond (decide ((↑i : Int) < (↑n : Int))) (e = .normal ∧ fr' = frL [(3, .flt true (fadd s (fadd (fabs (a (0 + i))) (fabs (b (0 + i)))))), (6, .slc true false ⟨false, 0, 0, 0⟩ n), (7, iT (↑n : Int)), (8, iT ((↑i : Int) + 1))] ∧ H' = hpL [(0, cK false n a b)]) (e = .exit 0 ∧ fr' = frL [(3, .flt true s), (6, .slc true false ⟨false, 0, 0, 0⟩ n), (7, iT (↑n : Int)), (8, iT (↑i : Int))] ∧ H' = hpL [(0, cK false n a b)])) := cD (fun q0 t0 => rc0 (noL_r0 n i s a b t0 (by omega) (by omega) (by omega) (by omega) (x0 t0)) hB) (fun q0 t0 => rc0 (noL_r1 n i s a b t0) hB)
theorem noZ_r0 (s : Nat) : PieceN 1 (Ex.ret) [(2, .flt true s)] [] (piececall0 Try.f35 (nav [1,1,1] (bodyOf Try.f35)) (frL [(3, .flt true s)]) (hpL []) 1 []) := eqn (by kernel_rfl) trivial
theorem noZ (B : Nat) (hB : B ≤ 1) (n i s : Nat) (a b : Nat → Nat) : GoesB Try.prog (nav [1,1,1] (bodyOf Try.f35)) Try.f35.ntmps B 1 1 (frL [(3, .flt true s)]) (hpL []) fun e fr' H' => (e = .ret ∧ fr' = frL [(2, .flt true s)] ∧ H' = hpL []) := rc0 (noZ_r0 s) hB
theorem nmA_r0 (n : Nat) (a b : Nat → Nat) : PieceN 1 (Ex.normal) [(0, .slc true false ⟨false, 0, 0, 0⟩ n)] [(0, cK false n a b)] (piececall0 Try.f37 (nav [0] (bodyOf Try.f37)) (frameOf [slcV 0 n] 0 .e) (hpL [(0, cK false n a b)]) 1 []) := eqn (by kernel_rfl) trivial
theorem nmA (B : Nat) (hB : B ≤ 1) (n : Nat) (a b : Nat → Nat) : GoesB Try.prog (nav [0] (bodyOf Try.f37)) Try.f37.ntmps B 1 1 (frameOf [slcV 0 n] 0 .e) (hpL [(0, cK false n a b)]) fun e fr' H' => (e = .normal ∧ fr' = frL [(0, .slc true false ⟨false, 0, 0, 0⟩ n)] ∧ H' = hpL [(0, cK false n a b)]) := rc0 (nmA_r0 n a b) hB
theorem nmC_r0 (n : Nat) (a b : Nat → Nat) : PieceN 1 (Ex.normal) [(0, .slc true false ⟨false, 0, 0, 0⟩ n), (3, .flt false 0)] [(0, cK false n a b)] (piececall0 Try.f37 (nav [1,0] (bodyOf Try.f37)) (frL [(0, slcV 0 n)]) (hpL [(0, cK false n a b)]) 1 []) := eqn (by kernel_rfl) trivial
theorem nmC (B : Nat) (hB : B ≤ 1) (n : Nat) (a b : Nat → Nat) : GoesB Try.prog (nav [1,0] (bodyOf Try.f37)) Try.f37.ntmps B 1 1 (frL [(0, slcV 0 n)]) (hpL [(0, cK false n a b)]) fun e fr' H' => (e = .normal ∧ fr' = frL [(0, .slc true false ⟨false, 0, 0, 0⟩ n), (3, .flt false 0)] ∧ H' = hpL [(0, cK false n a b)]) := rc0 (nmC_r0 n a b) hB
theorem nmD_r0 (n s : Nat) (a b : Nat → Nat) : PieceN 1 (Ex.normal) [(3, .flt true s), (7, .slc true false ⟨false, 0, 0, 0⟩ n), (8, iT (↑n : Int)), (9, .int false .i64 0)] [(0, cK false n a b)] (piececall0 Try.f37 (nav [1,1,0,0] (bodyOf Try.f37)) (frL [(0, slcV 0 n), (3, .flt true s)]) (hpL [(0, cK false n a b)]) 1 []) := eqn (by kernel_rfl) trivial
theorem nmD (B : Nat) (hB : B ≤ 1) (n i s : Nat) (a b : Nat → Nat) : GoesB Try.prog (nav [1,1,0,0] (bodyOf Try.f37)) Try.f37.ntmps B 1 1 (frL [(0, slcV 0 n), (3, .flt true s)]) (hpL [(0, cK false n a b)]) fun e fr' H' => (e = .normal ∧ fr' = frL [(3, .flt true s), (7, .slc true false ⟨false, 0, 0, 0⟩ n), (8, iT (↑n : Int)), (9, .int false .i64 0)] ∧ H' = hpL [(0, cK false n a b)]) := rc0 (nmD_r0 n s a b) hB
theorem nmL_r0 (n i s : Nat) (a b : Nat → Nat) (c0 : decide ((↑i : Int) < (↑n : Int)) = true) (c1 : 0 ≤ (↑i : Int)) (c2 : (↑i : Int) < (↑n : Int)) (c3 : 0 + i < n) (c4 : fgt (fadd (fabs (a (0 + i))) (fabs (b (0 + i)))) s = true) (c5 : -9223372036854775808 ≤ (↑i : Int) + 1) (c6 : (↑i : Int) + 1 ≤ (9223372036854775807 : Int)) : PieceN 1 (Ex.normal) [(3, .flt true (fadd (fabs (a (0 + i))) (fabs (b (0 + i))))), (7, .slc true false ⟨false, 0, 0, 0⟩ n), (8, iT (↑n : Int)), (9, iT ((↑i : Int) + 1))] [(0, cK false n a b)] (piececall0 Try.f37 (nav [1,1,0,1,0,0] (bodyOf Try.f37)) (frL [(3, .flt true s), (7, slcV 0 n), (8, iT n), (9, iT i)]) (hpL [(0, cK false n a b)]) 1 [true, true]) := eqn (by kernel_rfl) (ai (ai (ai (ai (ai trivial c0) (ai c1 c2)) c3) c4) (ai c5 c6))
theorem nmL_r1 (n i s : Nat) (a b : Nat → Nat) (c0 : decide ((↑i : Int) < (↑n : Int)) = true) (c1 : 0 ≤ (↑i : Int)) (c2 : (↑i : Int) < (↑n : Int)) (c3 : 0 + i < n) (c4 : fgt (fadd (fabs (a (0 + i))) (fabs (b (0 + i)))) s = false) (c5 : -9223372036854775808 ≤ (↑i : Int) + 1) (c6 : (↑i : Int) + 1 ≤ (9223372036854775807 : Int)) : PieceN 1 (Ex.normal) [(3, .flt true s), (7, .slc true false ⟨false, 0, 0, 0⟩ n), (8, iT (↑n : Int)), (9, iT ((↑i : Int) + 1))] [(0, cK false n a b)] (piececall0 Try.f37 (nav [1,1,0,1,0,0] (bodyOf Try.f37)) (frL [(3, .flt true s), (7, slcV 0 n), (8, iT n), (9, iT i)]) (hpL [(0, cK false n a b)]) 1 [true, false]) := eqn (by kernel_rfl) (ai (ai (ai (ai (ai trivial c0) (ai c1 c2)) c3) c4) (ai c5 c6))
theorem nmL_r2 (n i s : Nat) (a b : Nat → Nat) (c0 : decide ((↑i : Int) < (↑n : Int)) = false) : PieceN 1 (Ex.exit 0) [(3, .flt true s), (7, .slc true false ⟨false, 0, 0, 0⟩ n), (8, iT (↑n : Int)), (9, iT (↑i : Int))] [(0, cK false n a b)] (piececall0 Try.f37 (nav [1,1,0,1,0,0] (bodyOf Try.f37)) (frL [(3, .flt true s), (7, slcV 0 n), (8, iT n), (9, iT i)]) (hpL [(0, cK false n a b)]) 1 [false]) := eqn (by kernel_rfl) (ai trivial c0)
theorem nmL (B : Nat) (hB : B ≤ 1) (n i s : Nat) (a b : Nat → Nat) (x0 : ((decide ((↑i : Int) < (↑n : Int))) = true → ((↑i : Int) + 1 ≤ (9223372036854775807 : Int)))) : GoesB Try.prog (nav [1,1,0,1,0,0] (bodyOf Try.f37)) Try.f37.ntmps B 1 1 (frL [(3, .flt true s), (7, slcV 0 n), (8, iT n), (9, iT i)]) (hpL [(0, cK false n a b)]) fun e fr' H' => (cond (decide ((↑i : Int) < (↑n : Int))) (cond (fgt (fadd (fabs (a (0 + i))) (fabs (b (0 + i)))) s) (e = .normal ∧ fr' = frL [(3, .flt true (fadd (fabs (a (0 + i))) (fabs (b (0 + i))))), (7, .slc true false ⟨false, 0, 0, 0⟩ n), (8, iT (↑n : Int)), (9, iT ((↑i : Int) + 1))] ∧ H' = hpL [(0, cK false n a b)]) (e = .normal ∧ fr' = frL [(3, .flt true s), (7, .slc true false ⟨false, 0, 0, 0⟩ n), (8, iT (↑n : Int)), (9, iT ((↑i : Int) + 1))] ∧ H' = hpL [(0, cK false n a b)])) (e = .exit 0 ∧ fr' = frL [(3, .flt true s), (7, .slc true false ⟨false, 0, 0, 0⟩ n), (8, iT (↑n : Int)), (9, iT (↑i : Int))] ∧ H' = hpL [(0, cK false n a b)])) := cD (fun q0 t0 => cI (fun t1 => rc0 (nmL_r0 n i s a b t0 (by omega) (by omega) (by omega) t1 (by omega) (x0 t0)) hB) (fun t1 => rc0 (nmL_r1 n i s a b t0 (by omega) (by omega) (by omega) t1 (by omega) (x0 t0)) hB)) (fun q0 t0 => rc0 (nmL_r2 n i s a b t0) hB)
theorem nmZ_r0 (s : Nat) : PieceN 1 (Ex.ret) [(2, .flt true s)] [] (piececall0 Try.f37 (nav [1,1,1] (bodyOf Try.f37)) (frL [(3, .flt true s)]) (hpL []) 1 []) := eqn (by kernel_rfl) trivial
theorem nmZ (B : Nat) (hB : B ≤ 1) (n i s : Nat) (a b : Nat → Nat) : GoesB Try.prog (nav [1,1,1] (bodyOf Try.f37)) Try.f37.ntmps B 1 1 (frL [(3, .flt true s)]) (hpL []) fun e fr' H' => (e = .ret ∧ fr' = frL [(2, .flt true s)] ∧ H' = hpL []) := rc0 (nmZ_r0 s) hB
theorem my_goes (n m : Nat) (a b x y : Nat → Nat) :
  GoesB Try.prog (bodyOf Try.f56) Try.f56.ntmps 2 2 2 (frameOf [slcV 0 n, slcV 1 m] 0 .e) (hpL [(0, cK false n a b), (1, cK false m x y)]) fun e fr' H' => (e = .ret ∨ e = .normal) ∧ ∃ u, fr'.get 4 = some u ∧ AV.ge u (iT (vmay n m)) := by
 refine (myW 2 (by omega) n m a b x y).mono fun e fr' H' h => ?_
 unfold vmay
 refine cond_elim h (fun t1 h => ?_) (fun t1 h => ?_)
 ·obtain ⟨rfl, rfl, rfl⟩ := h
  exact ⟨.inl rfl, _, rfl, by rw [t1]; exact AV.ge.int _ _ _ _⟩
 refine cond_elim h (fun t2 h => ?_) (fun t2 h => ?_)
 ·obtain ⟨rfl, rfl, rfl⟩ := h
  exact ⟨.inl rfl, _, rfl, by rw [t1, t2]; exact AV.ge.int _ _ _ _⟩
 refine cond_elim h (fun t3 h => ?_) (fun t3 h => ?_)
 ·obtain ⟨rfl, rfl, rfl⟩ := h
  exact ⟨.inl rfl, _, rfl, by rw [t1, t2, t3]; exact AV.ge.int _ _ _ _⟩
 ·obtain ⟨rfl, rfl, rfl⟩ := h
  exact ⟨.inl rfl, _, rfl, by rw [t1, t2, t3]; exact AV.ge.int _ _ _ _⟩
theorem cj_is : (bodyOf Try.f29) = .seq (nav [0] (bodyOf Try.f29)) (.seq (nav [1,0] (bodyOf Try.f29)) (.seq (.seq (nav [1,1,0,0] (bodyOf Try.f29)) (.block 0 (.loop (nav [1,1,0,1,0,0] (bodyOf Try.f29))))) (nav [1,1,1] (bodyOf Try.f29)))) := by kernel_rfl
theorem cj_goes (n : Nat) (a b : Nat → Nat) (hn : n * 16 ≤ 140737488355328) :
  GoesB Try.prog (bodyOf Try.f29) Try.f29.ntmps 1 1 2 (frameOf [slcV 0 n] 0 .e) (hpL [(0, cK false n a b)]) fun e fr' H' => e = .ret ∧ fr' = frL [(2, sL 1 n)] ∧ H' = hpL [(1, .cells true 1 (n) (.fn fun j => [.cpx true (a j) (fneg (b j))]))] := by
 rw [cj_is]
 refine GoesB.seq (K1 := 1) (by omega) ((cjA 1 (by omega) n a b ).mono fun e fr' H' ⟨e1, e2, e3⟩ => ?_)
 subst e1 e2 e3
 refine GoesB.seq (K1 := 2) (by omega) ((cjC 1 (by omega) n a b (by omega) (by omega)).mono fun e fr' H' ⟨e1, e2, e3⟩ => ?_)
 subst e1 e2 e3
 refine GoesB.seq (K1 := 2) (by omega) (GoesB.seq (K1 := 2) (by omega) ((cjD 1 (by omega) n 0 a b (fun _ => [AV.cpx false 0 0])).mono fun e fr' H' ⟨e1, e2, e3⟩ => ?_))
 subst e1 e2 e3
 refine GoesB.weakL (fl := [(3, sL 1 n), (9, slcV 0 n), (10, iT (n : Nat)), (11, iT ((0 : Nat) : Int))]) (bl := [(0, cK false n a b), (1, .cells true 1 (n) (.fn (fun j => bif decide (j < 0) then (fun j => [.cpx true (a j) (fneg (b j))]) j else [AV.cpx false 0 0])))]) ⟨re rfl, re rfl, re rfl, ri rfl, trivial⟩ ⟨hs rfl, ⟨_, rfl, ⟨rfl, rfl, rfl, fun j hj => (row_none (fun j => [.cpx true (a j) (fneg (b j))]) _ j).symm⟩⟩, trivial⟩ ?_
 refine (GoesB.count n (fun i => [(3, sL 1 n), (9, slcV 0 n), (10, iT (n : Nat)), (11, iT ((i : Nat) : Int))]) (fun i => [(0, cK false n a b), (1, .cells true 1 (n) (.fn (fun j => bif decide (j < i) then (fun j => [.cpx true (a j) (fneg (b j))]) j else [AV.cpx false 0 0])))]) [(3, sL 1 n)] [(1, .cells true 1 (n) (.fn fun j => [.cpx true (a j) (fneg (b j))]))] (fun _ => True) (fun _ _ => False) trivial (fun i hi _ => ?_)).mono fun e fr' H' h => ?_
 ·have hB := cjL 1 (by omega) n i a b (fun j => bif decide (j < i) then (fun j => [.cpx true (a j) (fneg (b j))]) j else [AV.cpx false 0 0]) (fun t => by omega)
  simp only [Nat.zero_add] at hB
  refine hB.post fun e fr' H' h => ?_
  refine cond_elim h (fun t h => ?_) (fun t h => ?_)
  ·have hlt : i < n := by have := of_decide_eq_true t; omega
   obtain ⟨rfl, rfl, rfl⟩ := h
   exact ⟨[(3, sL 1 n), (9, slcV 0 n), (10, iT (n : Nat)), (11, iT ((i + 1 : Nat) : Int))], [(0, cK false n a b), (1, .cells true 1 (n) (.fn (fun j => bif decide (j < i + 1) then (fun j => [.cpx true (a j) (fneg (b j))]) j else [AV.cpx false 0 0])))], ⟨re rfl, re rfl, re rfl, ri rfl, trivial⟩, ⟨hs rfl, ⟨_, rfl, ⟨rfl, rfl, rfl, fun j hj => by simpa only [Cont.row] using row_put (fun j => [.cpx true (a j) (fneg (b j))]) [AV.cpx false 0 0] _ i j⟩⟩, trivial⟩, .inl ⟨rfl, hlt, trivial, rfl, rfl⟩⟩
  ·have e : i = n := by have := of_decide_eq_false t; omega
   subst e
   obtain ⟨rfl, rfl, rfl⟩ := h
   exact ⟨[(3, sL 1 i)], [(1, .cells true 1 (i) (.fn fun j => [.cpx true (a j) (fneg (b j))]))], ⟨re rfl, trivial⟩, ⟨⟨_, rfl, ⟨rfl, rfl, rfl, fun j hj => row_all (fun j => [.cpx true (a j) (fneg (b j))]) _ _ j hj⟩⟩, trivial⟩, .inr (.inl ⟨rfl, trivial, rfl, rfl⟩)⟩
 rcases h with ⟨rfl, _, rfl, rfl⟩ | ⟨_, h⟩
 case inr => exact h.elim
 exact cjZ 1 (by omega) n 0 a b (fun j => [.cpx true (a j) (fneg (b j))])
theorem no_is : (bodyOf Try.f35) = .seq (nav [0] (bodyOf Try.f35)) (.seq (nav [1,0] (bodyOf Try.f35)) (.seq (.seq (nav [1,1,0,0] (bodyOf Try.f35)) (.block 0 (.loop (nav [1,1,0,1,0,0] (bodyOf Try.f35))))) (nav [1,1,1] (bodyOf Try.f35)))) := by kernel_rfl
theorem no_goes (n : Nat) (a b : Nat → Nat) (hn : n * 16 ≤ 140737488355328) :
  GoesB Try.prog (bodyOf Try.f35) Try.f35.ntmps 1 1 1 (frameOf [slcV 0 n] 0 .e) (hpL [(0, cK false n a b)]) fun e fr' H' => e = .ret ∧ fr' = frL [(2, .flt true (n1R a b n))] ∧ H' = hpL [] := by
 rw [no_is]
 refine GoesB.seq (K1 := 1) (by omega) ((noA 1 (by omega) n a b ).mono fun e fr' H' ⟨e1, e2, e3⟩ => ?_)
 subst e1 e2 e3
 refine GoesB.seq (K1 := 1) (by omega) ((noC 1 (by omega) n a b ).mono fun e fr' H' ⟨e1, e2, e3⟩ => ?_)
 subst e1 e2 e3
 refine GoesB.weakL (fl := [(0, slcV 0 n), (3, .flt true 0)]) (bl := [(0, cK false n a b)]) ⟨re rfl, ⟨_, rfl, AV.ge.flt' _ _ rfl⟩, trivial⟩ ⟨hs rfl, trivial⟩ ?_
 refine GoesB.seq (K1 := 1) (by omega) (GoesB.seq (K1 := 1) (by omega) ((noD 1 (by omega) n 0 0 a b).mono fun e fr' H' ⟨e1, e2, e3⟩ => ?_))
 subst e1 e2 e3
 refine GoesB.weakL (fl := [(3, .flt true (n1R a b (0))), (6, slcV 0 n), (7, iT (n : Nat)), (8, iT ((0 : Nat) : Int))]) (bl := [(0, cK false n a b)]) ⟨re rfl, re rfl, re rfl, ri rfl, trivial⟩ ⟨hs rfl, trivial⟩ ?_
 refine (GoesB.count n (fun i => [(3, .flt true (n1R a b (i))), (6, slcV 0 n), (7, iT (n : Nat)), (8, iT ((i : Nat) : Int))]) (fun i => [(0, cK false n a b)]) [(3, .flt true (n1R a b n))] [] (fun _ => True) (fun _ _ => False) trivial (fun i hi _ => ?_)).mono fun e fr' H' h => ?_
 ·have hB := noL 1 (by omega) n i (n1R a b i) a b (fun t => by omega)
  simp only [Nat.zero_add] at hB
  refine hB.post fun e fr' H' h => ?_
  refine cond_elim h (fun t h => ?_) (fun t h => ?_)
  ·have hlt : i < n := by have := of_decide_eq_true t; omega
   obtain ⟨rfl, rfl, rfl⟩ := h
   exact ⟨[(3, .flt true (n1R a b (i + 1))), (6, slcV 0 n), (7, iT (n : Nat)), (8, iT ((i + 1 : Nat) : Int))], [(0, cK false n a b)], ⟨re rfl, re rfl, re rfl, ri rfl, trivial⟩, ⟨hs rfl, trivial⟩, .inl ⟨rfl, hlt, trivial, rfl, rfl⟩⟩
  ·have e : i = n := by have := of_decide_eq_false t; omega
   subst e
   obtain ⟨rfl, rfl, rfl⟩ := h
   exact ⟨[(3, .flt true (n1R a b i))], [], ⟨re rfl, trivial⟩, trivial, .inr (.inl ⟨rfl, trivial, rfl, rfl⟩)⟩
 rcases h with ⟨rfl, _, rfl, rfl⟩ | ⟨_, h⟩
 case inr => exact h.elim
 exact noZ 1 (by omega) n 0 (n1R a b n) a b
theorem nm_is : (bodyOf Try.f37) = .seq (nav [0] (bodyOf Try.f37)) (.seq (nav [1,0] (bodyOf Try.f37)) (.seq (.seq (nav [1,1,0,0] (bodyOf Try.f37)) (.block 0 (.loop (nav [1,1,0,1,0,0] (bodyOf Try.f37))))) (nav [1,1,1] (bodyOf Try.f37)))) := by kernel_rfl
theorem nm_goes (n : Nat) (a b : Nat → Nat) (hn : n * 16 ≤ 140737488355328) :
  GoesB Try.prog (bodyOf Try.f37) Try.f37.ntmps 1 1 1 (frameOf [slcV 0 n] 0 .e) (hpL [(0, cK false n a b)]) fun e fr' H' => e = .ret ∧ fr' = frL [(2, .flt true (nmR a b n))] ∧ H' = hpL [] := by
 rw [nm_is]
 refine GoesB.seq (K1 := 1) (by omega) ((nmA 1 (by omega) n a b ).mono fun e fr' H' ⟨e1, e2, e3⟩ => ?_)
 subst e1 e2 e3
 refine GoesB.seq (K1 := 1) (by omega) ((nmC 1 (by omega) n a b ).mono fun e fr' H' ⟨e1, e2, e3⟩ => ?_)
 subst e1 e2 e3
 refine GoesB.weakL (fl := [(0, slcV 0 n), (3, .flt true 0)]) (bl := [(0, cK false n a b)]) ⟨re rfl, ⟨_, rfl, AV.ge.flt' _ _ rfl⟩, trivial⟩ ⟨hs rfl, trivial⟩ ?_
 refine GoesB.seq (K1 := 1) (by omega) (GoesB.seq (K1 := 1) (by omega) ((nmD 1 (by omega) n 0 0 a b).mono fun e fr' H' ⟨e1, e2, e3⟩ => ?_))
 subst e1 e2 e3
 refine GoesB.weakL (fl := [(3, .flt true (nmR a b (0))), (7, slcV 0 n), (8, iT (n : Nat)), (9, iT ((0 : Nat) : Int))]) (bl := [(0, cK false n a b)]) ⟨re rfl, re rfl, re rfl, ri rfl, trivial⟩ ⟨hs rfl, trivial⟩ ?_
 refine (GoesB.count n (fun i => [(3, .flt true (nmR a b (i))), (7, slcV 0 n), (8, iT (n : Nat)), (9, iT ((i : Nat) : Int))]) (fun i => [(0, cK false n a b)]) [(3, .flt true (nmR a b n))] [] (fun _ => True) (fun _ _ => False) trivial (fun i hi _ => ?_)).mono fun e fr' H' h => ?_
 ·have hB := nmL 1 (by omega) n i (nmR a b i) a b (fun t => by omega)
  simp only [Nat.zero_add] at hB
  refine hB.post fun e fr' H' h => ?_
  refine cond_elim h (fun t h => ?_) (fun t h => ?_)
  ·have hlt : i < n := by have := of_decide_eq_true t; omega
   refine cond_elim h (fun t1 h => ?_) (fun t1 h => ?_)
   ·
    obtain ⟨rfl, rfl, rfl⟩ := h
    exact ⟨[(3, .flt true (nmR a b (i + 1))), (7, slcV 0 n), (8, iT (n : Nat)), (9, iT ((i + 1 : Nat) : Int))], [(0, cK false n a b)], ⟨⟨_, rfl, AV.ge.flt' _ _ (by rw [nmR, t1]; rfl)⟩, re rfl, re rfl, ri rfl, trivial⟩, ⟨hs rfl, trivial⟩, .inl ⟨rfl, hlt, trivial, rfl, rfl⟩⟩
   ·
    obtain ⟨rfl, rfl, rfl⟩ := h
    exact ⟨[(3, .flt true (nmR a b (i + 1))), (7, slcV 0 n), (8, iT (n : Nat)), (9, iT ((i + 1 : Nat) : Int))], [(0, cK false n a b)], ⟨⟨_, rfl, AV.ge.flt' _ _ (by rw [nmR, t1]; rfl)⟩, re rfl, re rfl, ri rfl, trivial⟩, ⟨hs rfl, trivial⟩, .inl ⟨rfl, hlt, trivial, rfl, rfl⟩⟩
  ·have e : i = n := by have := of_decide_eq_false t; omega
   subst e
   obtain ⟨rfl, rfl, rfl⟩ := h
   exact ⟨[(3, .flt true (nmR a b i))], [], ⟨re rfl, trivial⟩, trivial, .inr (.inl ⟨rfl, trivial, rfl, rfl⟩)⟩
 rcases h with ⟨rfl, _, rfl, rfl⟩ | ⟨_, h⟩
 case inr => exact h.elim
 exact nmZ 1 (by omega) n 0 (nmR a b n) a b


noncomputable def myS : List AV → M AV
 | [x, y] => c2 x y fun n a b m a' b' => M.ret (iT (vmay n m))
 | _ => M.no
theorem myS_ok : ∀ args v g g', myS args g = .done v g' → CallIs Try.prog 56 args v g g' := by
 intro args v g g' h
 unfold myS at h
 split at h
 ·exact c2_plain Try.func56 (by kernel_rfl) (by kernel_rfl) (pl := []) (pr := []) (fun u hu => by simp at hu) (K' := 2) (res := fun n a b m a' b' => iT (vmay n m)) (fun n a b m a' b' => ⟨fun N => by simp [AV.low, lows], fun S => by simp [AV.inS, insS], fun σ => rfl⟩) (fun n a b m a' b' hn hm hw hw' => (my_goes n m a b a' b').mono fun e fr' H' hp => by obtain ⟨e1, u, e2, e3⟩ := hp; exact ⟨e1, _, _, res1 (t := 4) (by kernel_rfl) e2, trivial, e3, news0⟩) _ _ _ _ _ h
 ·exact (no_done h).elim
theorem myS_tch : ∀ args, Tch (myS args) := by
 intro args
 unfold myS
 split
 ·exact Tch.c2 _ _ fun _ _ _ _ _ _ => Tch.ret _
 ·exact Tch.no
noncomputable def conjS : List AV → M AV
 | [x] => c1 x fun n a b => (M.newB (.cells true 1 ((fun n => n) n) (.fn (fun j => [.cpx true (a j) (fneg (b j))])))).andThen fun N => M.ret ((fun n N => .slc true true ⟨false, N, 0, 0⟩ n) n N)
 | _ => M.no
theorem conjS_ok : ∀ args v g g', conjS args g = .done v g' → CallIs Try.prog 29 args v g g' := by
 intro args v g g' h
 unfold conjS at h
 split at h
 ·exact c1_new Try.func29 (by kernel_rfl) (by kernel_rfl) (pl := []) (pr := []) (fun u hu => by simp at hu) (K' := 2) (nm := 1) (len := fun n => n) (val := fun n N => .slc true true ⟨false, N, 0, 0⟩ n) (rows := fun n a b => fun j => [.cpx true (a j) (fneg (b j))]) (fun n => Named.slc n) (fun n a b j hj u hu => low_c hu) (fun n a b hn hw => (cj_goes n a b hn).mono fun e fr' H' hp => by obtain ⟨rfl, rfl, rfl⟩ := hp; exact ⟨.inl rfl, _, _, res1 (t := 2) (by kernel_rfl) rfl, trivial, AV.ge.refl _, news1 rfl (SameC.refl _) rfl (fun j hj u hu => low_c hu)⟩) _ _ _ _ h
 ·exact (no_done h).elim
theorem conjS_tch : ∀ args, Tch (conjS args) := by
 intro args
 unfold conjS
 split
 ·exact Tch.c1 _ fun _ _ _ => (Tch.newB _).andThen fun _ => Tch.ret _
 ·exact Tch.no
noncomputable def no1S : List AV → M AV
 | [x] => c1 x fun n a b => M.ret (.flt true (n1R a b n))
 | _ => M.no
theorem no1S_ok : ∀ args v g g', no1S args g = .done v g' → CallIs Try.prog 35 args v g g' := by
 intro args v g g' h
 unfold no1S at h
 split at h
 ·exact c1_plain Try.func35 (by kernel_rfl) (by kernel_rfl) (pl := []) (pr := []) (fun u hu => by simp at hu) (K' := 1) (res := fun n a b => .flt true (n1R a b n)) (fun n a b => ⟨fun N => by simp [AV.low, lows], fun S => by simp [AV.inS, insS], fun σ => rfl⟩) (fun n a b hn hw => (no_goes n a b hn).mono fun e fr' H' hp => by obtain ⟨rfl, rfl, rfl⟩ := hp; exact ⟨.inl rfl, _, _, res1 (t := 2) (by kernel_rfl) rfl, trivial, AV.ge.refl _, news0⟩) _ _ _ _ h
 ·exact (no_done h).elim
theorem no1S_tch : ∀ args, Tch (no1S args) := by
 intro args
 unfold no1S
 split
 ·exact Tch.c1 _ fun _ _ _ => Tch.ret _
 ·exact Tch.no
noncomputable def nomS : List AV → M AV
 | [x] => c1 x fun n a b => M.ret (.flt true (nmR a b n))
 | _ => M.no
theorem nomS_ok : ∀ args v g g', nomS args g = .done v g' → CallIs Try.prog 37 args v g g' := by
 intro args v g g' h
 unfold nomS at h
 split at h
 ·exact c1_plain Try.func37 (by kernel_rfl) (by kernel_rfl) (pl := []) (pr := []) (fun u hu => by simp at hu) (K' := 1) (res := fun n a b => .flt true (nmR a b n)) (fun n a b => ⟨fun N => by simp [AV.low, lows], fun S => by simp [AV.inS, insS], fun σ => rfl⟩) (fun n a b hn hw => (nm_goes n a b hn).mono fun e fr' H' hp => by obtain ⟨rfl, rfl, rfl⟩ := hp; exact ⟨.inl rfl, _, _, res1 (t := 2) (by kernel_rfl) rfl, trivial, AV.ge.refl _, news0⟩) _ _ _ _ h
 ·exact (no_done h).elim
theorem nomS_tch : ∀ args, Tch (nomS args) := by
 intro args
 unfold nomS
 split
 ·exact Tch.c1 _ fun _ _ _ => Tch.ret _
 ·exact Tch.no
noncomputable def gamV : Known := kc 61 toBits (kc 47 ofBits (kc 56 myS (kc 29 conjS (kc 35 no1S (kc 37 nomS (kn))))))
theorem gamV_ok : KnownOk Try.prog gamV := kc_ok ((toBits_is Try.prog).callIs Try.func61 (by kernel_rfl) (by kernel_rfl) (by kernel_rfl) (by kernel_rfl)) (kc_ok ((ofBits_is Try.prog).callIs Try.func47 (by kernel_rfl) (by kernel_rfl) (by kernel_rfl) (by kernel_rfl)) (kc_ok myS_ok (kc_ok conjS_ok (kc_ok no1S_ok (kc_ok nomS_ok (kn_ok))))))
theorem gamV_tch : KnownT gamV := kc_tch Tch.toBits (kc_tch Tch.ofBits (kc_tch myS_tch (kc_tch conjS_tch (kc_tch no1S_tch (kc_tch nomS_tch (kn_tch))))))
noncomputable def callV : Calls' := Sx.runN Try.prog gamV (regionC Try.prog) 1000 50
theorem callV_ok : CallOk Try.prog callV := engineC gamV_ok gamV_tch (by kernel_rfl) (by kernel_rfl) 1000 50
theorem callV_reg (n : Nat) : RegionOk Try.prog (regionC Try.prog callV n) n := runN_regionC gamV_ok gamV_tch (by kernel_rfl) (by kernel_rfl) 1000 50 n
noncomputable abbrev piececallV (f : Func) (c : Code) (fr : Fr) (H : T ABk) (K : Nat) (path : List Bool) : Res (Ex × Fr) :=
 codeA Try.prog callV (regionC Try.prog callV f.ntmps) noLoops f.ntmps 1000 c fr ⟨H, K, [], path, True⟩


theorem rcV {fn : Func} {K K' B : Nat} {e : Ex} {F : List (Nat × AV)} {Hl : List (Nat × ABk)} {c : Code} {fr : Fr} {H : T ABk} {path : List Bool} (h : PieceN K' e F Hl (piececallV fn c fr H K path)) (hB : B ≤ K) : GoesB Try.prog c fn.ntmps B K K' fr H fun e' fr' H' => e' = e ∧ fr' = frL F ∧ H' = hpL Hl := GoesB.runN callV_ok (callV_reg _) (LoopsIn.none _ _ _) h hB
theorem crow_of {x y : Nat} (h1 : Fw x) (h2 : Fw y) : CRow [.cpx true x y] := ⟨⟨true, rfl⟩, h1, h2⟩
theorem cw_row {n : Nat} {a b : Nat → Nat} (h : CW n a b) : ∀ j, j < n → CRow [.cpx true (a j) (b j)] := fun j hj => crow_of (h j hj).1 (h j hj).2
theorem vmay_eq {n m : Nat} (h : vmay n m = 0) : n = m ∧ n ≤ 65536 := by
 unfold vmay at h
 cases t1 : decide ((65536 : Int) < (n : Int)) with
 | true => rw [t1] at h; exact absurd (show (3 : Int) = 0 from h) (by decide)
 | false =>
  cases t2 : decide ((65536 : Int) < (m : Int)) with
  | true => rw [t1, t2] at h; exact absurd (show (3 : Int) = 0 from h) (by decide)
  | false =>
   cases t3 : decide ((n : Int) = (m : Int)) with
   | false => rw [t1, t2, t3] at h; exact absurd (show (4 : Int) = 0 from h) (by decide)
   | true =>
    have := of_decide_eq_true t3
    have := of_decide_eq_false t1
    omega
noncomputable def doR (n m : Nat) (a b x y : Nat → Nat) : Nat × Nat := bif decide (vmay n m = 0) then dotR a b x y n else (0, 0)
theorem adA_r0 (n m : Nat) (a b x y : Nat → Nat) : PieceN 2 (Ex.normal) [(0, .slc true false ⟨false, 0, 0, 0⟩ n), (1, .slc true false ⟨false, 1, 0, 0⟩ m), (2, .fn (.func 51) [] [])] [(0, cK false n a b), (1, cK false m x y)] (piececallV Try.f49 (nav [0] (bodyOf Try.f49)) (frameOf [slcV 0 n, slcV 1 m, .fn (.func 51) [] []] 0 .e) (hpL [(0, cK false n a b), (1, cK false m x y)]) 2 []) := eqn (by kernel_rfl) trivial
theorem adA (B : Nat) (hB : B ≤ 2) (n m : Nat) (a b x y : Nat → Nat) : GoesB Try.prog (nav [0] (bodyOf Try.f49)) Try.f49.ntmps B 2 2 (frameOf [slcV 0 n, slcV 1 m, .fn (.func 51) [] []] 0 .e) (hpL [(0, cK false n a b), (1, cK false m x y)]) fun e fr' H' => (e = .normal ∧ fr' = frL [(0, .slc true false ⟨false, 0, 0, 0⟩ n), (1, .slc true false ⟨false, 1, 0, 0⟩ m), (2, .fn (.func 51) [] [])] ∧ H' = hpL [(0, cK false n a b), (1, cK false m x y)]) := rcV (adA_r0 n m a b x y) hB
theorem adC_r0 (n m : Nat) (a b x y : Nat → Nat) (c0 : 0 + n ≤ n) (c1 : Nat.le (n * 16) 140737488355328) (c2 : ∀ (j : Nat), j < n → CRow [.cpx true (a (0 + j)) (b (0 + j))]) (c3 : ∀ (j : Nat), j < n → ∀ (u : AV), u ∈ [AV.cpx true (a (0 + j)) (b (0 + j))] → AV.low 0 u = true) (c4 : 0 + m ≤ m) (c5 : Nat.le (m * 16) 140737488355328) (c6 : ∀ (j : Nat), j < m → CRow [.cpx true (x (0 + j)) (y (0 + j))]) (c7 : ∀ (j : Nat), j < m → ∀ (u : AV), u ∈ [AV.cpx true (x (0 + j)) (y (0 + j))] → AV.low 0 u = true) (c8 : (!decide (vmay n m = (0 : Int))) = false) : PieceN 2 (Ex.normal) [(0, .slc true false ⟨false, 0, 0, 0⟩ n), (1, .slc true false ⟨false, 1, 0, 0⟩ m), (2, .fn (.func 51) [] [])] [(0, cK false n a b), (1, cK false m x y)] (piececallV Try.f49 (nav [1,0] (bodyOf Try.f49)) (frL [(0, slcV 0 n), (1, slcV 1 m), (2, .fn (.func 51) [] [])]) (hpL [(0, cK false n a b), (1, cK false m x y)]) 2 [false]) := eqn (by kernel_rfl) (ai (ai (ai (ai (ai trivial c0) (ai (ai c1 c2) c3)) c4) (ai (ai c5 c6) c7)) c8)
theorem adC_r1 (n m : Nat) (a b x y : Nat → Nat) (c0 : 0 + n ≤ n) (c1 : Nat.le (n * 16) 140737488355328) (c2 : ∀ (j : Nat), j < n → CRow [.cpx true (a (0 + j)) (b (0 + j))]) (c3 : ∀ (j : Nat), j < n → ∀ (u : AV), u ∈ [AV.cpx true (a (0 + j)) (b (0 + j))] → AV.low 0 u = true) (c4 : 0 + m ≤ m) (c5 : Nat.le (m * 16) 140737488355328) (c6 : ∀ (j : Nat), j < m → CRow [.cpx true (x (0 + j)) (y (0 + j))]) (c7 : ∀ (j : Nat), j < m → ∀ (u : AV), u ∈ [AV.cpx true (x (0 + j)) (y (0 + j))] → AV.low 0 u = true) (c8 : (!decide (vmay n m = (0 : Int))) = true) : PieceN 2 (Ex.ret) [(0, .slc true false ⟨false, 0, 0, 0⟩ n), (1, .slc true false ⟨false, 1, 0, 0⟩ m), (2, .fn (.func 51) [] []), (6, .nils), (7, iT (vmay n m))] [(0, cK false n a b), (1, cK false m x y)] (piececallV Try.f49 (nav [1,0] (bodyOf Try.f49)) (frL [(0, slcV 0 n), (1, slcV 1 m), (2, .fn (.func 51) [] [])]) (hpL [(0, cK false n a b), (1, cK false m x y)]) 2 [true]) := eqn (by kernel_rfl) (ai (ai (ai (ai (ai trivial c0) (ai (ai c1 c2) c3)) c4) (ai (ai c5 c6) c7)) c8)
theorem adC (B : Nat) (hB : B ≤ 2) (n m : Nat) (a b x y : Nat → Nat) (x0 : (Nat.le (n * 16) 140737488355328)) (x1 : (∀ (j : Nat), j < n → CRow [.cpx true (a (0 + j)) (b (0 + j))])) (x2 : (∀ (j : Nat), j < n → ∀ (u : AV), u ∈ [AV.cpx true (a (0 + j)) (b (0 + j))] → AV.low 0 u = true)) (x3 : (Nat.le (m * 16) 140737488355328)) (x4 : (∀ (j : Nat), j < m → CRow [.cpx true (x (0 + j)) (y (0 + j))])) (x5 : (∀ (j : Nat), j < m → ∀ (u : AV), u ∈ [AV.cpx true (x (0 + j)) (y (0 + j))] → AV.low 0 u = true)) : GoesB Try.prog (nav [1,0] (bodyOf Try.f49)) Try.f49.ntmps B 2 2 (frL [(0, slcV 0 n), (1, slcV 1 m), (2, .fn (.func 51) [] [])]) (hpL [(0, cK false n a b), (1, cK false m x y)]) fun e fr' H' => (cond (decide (vmay n m = (0 : Int))) (e = .normal ∧ fr' = frL [(0, .slc true false ⟨false, 0, 0, 0⟩ n), (1, .slc true false ⟨false, 1, 0, 0⟩ m), (2, .fn (.func 51) [] [])] ∧ H' = hpL [(0, cK false n a b), (1, cK false m x y)]) (e = .ret ∧ fr' = frL [(0, .slc true false ⟨false, 0, 0, 0⟩ n), (1, .slc true false ⟨false, 1, 0, 0⟩ m), (2, .fn (.func 51) [] []), (6, .nils), (7, iT (vmay n m))] ∧ H' = hpL [(0, cK false n a b), (1, cK false m x y)])) := cD (fun q0 t0 => rcV (adC_r0 n m a b x y (by omega) x0 x1 x2 (by omega) x3 x4 x5 (by rw [t0]; rfl)) hB) (fun q0 t0 => rcV (adC_r1 n m a b x y (by omega) x0 x1 x2 (by omega) x3 x4 x5 (by rw [t0]; rfl)) hB)
theorem adD_r0 (n : Nat) (a b x y : Nat → Nat) (c0 : 0 ≤ (↑n : Int)) (c1 : (↑n : Int) ≤ (↑n : Int)) (c2 : 16 * (↑n : Int) ≤ 140737488355328) (c3 : (↑n : Int) ≤ 9223372036854775807) : PieceN 3 (Ex.normal) [(0, .slc true false ⟨false, 0, 0, 0⟩ n), (1, .slc true false ⟨false, 1, 0, 0⟩ n), (2, .fn (.func 51) [] []), (9, sL 2 n)] [(0, cK false n a b), (1, cK false n x y), (2, .cells true 1 n (.fn fun x => [.cpx false 0 0]))] (piececallV Try.f49 (nav [1,1,0] (bodyOf Try.f49)) (frL [(0, slcV 0 n), (1, slcV 1 n), (2, .fn (.func 51) [] [])]) (hpL [(0, cK false n a b), (1, cK false n x y)]) 2 []) := eqn (by kernel_rfl) (ai trivial (ai c0 (ai c1 (ai c2 c3))))
theorem adD (B : Nat) (hB : B ≤ 2) (n m : Nat) (a b x y : Nat → Nat) (x0 : (16 * (↑n : Int) ≤ 140737488355328)) (x1 : ((↑n : Int) ≤ 9223372036854775807)) : GoesB Try.prog (nav [1,1,0] (bodyOf Try.f49)) Try.f49.ntmps B 2 3 (frL [(0, slcV 0 n), (1, slcV 1 n), (2, .fn (.func 51) [] [])]) (hpL [(0, cK false n a b), (1, cK false n x y)]) fun e fr' H' => (e = .normal ∧ fr' = frL [(0, .slc true false ⟨false, 0, 0, 0⟩ n), (1, .slc true false ⟨false, 1, 0, 0⟩ n), (2, .fn (.func 51) [] []), (9, sL 2 n)] ∧ H' = hpL [(0, cK false n a b), (1, cK false n x y), (2, .cells true 1 n (.fn fun x => [.cpx false 0 0]))]) := rcV (adD_r0 n a b x y (by omega) (by omega) x0 x1) hB
theorem adE_r0 (n : Nat) (a b x y : Nat → Nat) (q : Nat → List AV) : PieceN 3 (Ex.normal) [(1, .slc true false ⟨false, 1, 0, 0⟩ n), (2, .fn (.func 51) [] []), (9, sL 2 n), (21, .slc true false ⟨false, 0, 0, 0⟩ n), (22, iT (↑n : Int)), (23, .int false .i64 0)] [(0, cK false n a b), (1, cK false n x y), (2, .cells true 1 n (Cont.fn q))] (piececallV Try.f49 (nav [1,1,1,0,0] (bodyOf Try.f49)) (frL [(0, slcV 0 n), (1, slcV 1 n), (2, .fn (.func 51) [] []), (9, sL 2 n)]) (hpL [(0, cK false n a b), (1, cK false n x y), (2, .cells true 1 (n) (.fn q))]) 3 []) := eqn (by kernel_rfl) trivial
theorem adE (B : Nat) (hB : B ≤ 3) (n i : Nat) (a b x y : Nat → Nat) (q : Nat → List AV) : GoesB Try.prog (nav [1,1,1,0,0] (bodyOf Try.f49)) Try.f49.ntmps B 3 3 (frL [(0, slcV 0 n), (1, slcV 1 n), (2, .fn (.func 51) [] []), (9, sL 2 n)]) (hpL [(0, cK false n a b), (1, cK false n x y), (2, .cells true 1 (n) (.fn q))]) fun e fr' H' => (e = .normal ∧ fr' = frL [(1, .slc true false ⟨false, 1, 0, 0⟩ n), (2, .fn (.func 51) [] []), (9, sL 2 n), (21, .slc true false ⟨false, 0, 0, 0⟩ n), (22, iT (↑n : Int)), (23, .int false .i64 0)] ∧ H' = hpL [(0, cK false n a b), (1, cK false n x y), (2, .cells true 1 n (Cont.fn q))]) := rcV (adE_r0 n a b x y q) hB
theorem adL_r0 (n i : Nat) (a b x y : Nat → Nat) (q : Nat → List AV) (c0 : decide ((↑i : Int) < (↑n : Int)) = true) (c1 : 0 ≤ (↑i : Int)) (c2 : (↑i : Int) < (↑n : Int)) (c3 : 0 + i < n) (c4 : 0 + i < n) (c5 : 0 + i < n) (c6 : 1 ≤ 1) (c7 : -9223372036854775808 ≤ (↑i : Int) + 1) (c8 : (↑i : Int) + 1 ≤ (9223372036854775807 : Int)) : PieceN 3 (Ex.normal) [(1, .slc true false ⟨false, 1, 0, 0⟩ n), (2, .fn (.func 51) [] []), (9, sL 2 n), (21, .slc true false ⟨false, 0, 0, 0⟩ n), (22, iT (↑n : Int)), (23, iT ((↑i : Int) + 1))] [(0, cK false n a b), (1, cK false n x y), (2, .cells true 1 n (.fn fun j => bif Nat.beq j (0 + i) then [.cpx true (fadd (a (0 + i)) (x (0 + i))) (fadd (b (0 + i)) (y (0 + i)))] else q j))] (piececallV Try.f49 (nav [1,1,1,0,1,0,0] (bodyOf Try.f49)) (frL [(1, slcV 1 n), (2, .fn (.func 51) [] []), (9, sL 2 n), (21, slcV 0 n), (22, iT n), (23, iT i)]) (hpL [(0, cK false n a b), (1, cK false n x y), (2, .cells true 1 (n) (.fn q))]) 3 [true]) := eqn (by kernel_rfl) (ai (ai (ai (ai (ai (ai (ai (ai (ai trivial c0) (ai c1 c2)) c3) (ai c1 c2)) c4) (ai c1 c2)) c5) c6) (ai c7 c8))
theorem adL_r1 (n i : Nat) (a b x y : Nat → Nat) (q : Nat → List AV) (c0 : decide ((↑i : Int) < (↑n : Int)) = false) : PieceN 3 (Ex.exit 0) [(1, .slc true false ⟨false, 1, 0, 0⟩ n), (2, .fn (.func 51) [] []), (9, sL 2 n), (21, .slc true false ⟨false, 0, 0, 0⟩ n), (22, iT (↑n : Int)), (23, iT (↑i : Int))] [(0, cK false n a b), (1, cK false n x y), (2, .cells true 1 n (Cont.fn q))] (piececallV Try.f49 (nav [1,1,1,0,1,0,0] (bodyOf Try.f49)) (frL [(1, slcV 1 n), (2, .fn (.func 51) [] []), (9, sL 2 n), (21, slcV 0 n), (22, iT n), (23, iT i)]) (hpL [(0, cK false n a b), (1, cK false n x y), (2, .cells true 1 (n) (.fn q))]) 3 [false]) := eqn (by kernel_rfl) (ai trivial c0)
theorem adL (B : Nat) (hB : B ≤ 3) (n i : Nat) (a b x y : Nat → Nat) (q : Nat → List AV) (x0 : ((decide ((↑i : Int) < (↑n : Int))) = true → ((↑i : Int) + 1 ≤ (9223372036854775807 : Int)))) : GoesB Try.prog (nav [1,1,1,0,1,0,0] (bodyOf Try.f49)) Try.f49.ntmps B 3 3 (frL [(1, slcV 1 n), (2, .fn (.func 51) [] []), (9, sL 2 n), (21, slcV 0 n), (22, iT n), (23, iT i)]) (hpL [(0, cK false n a b), (1, cK false n x y), (2, .cells true 1 (n) (.fn q))]) fun e fr' H' => (cond (decide ((↑i : Int) < (↑n : Int))) (e = .normal ∧ fr' = frL [(1, .slc true false ⟨false, 1, 0, 0⟩ n), (2, .fn (.func 51) [] []), (9, sL 2 n), (21, .slc true false ⟨false, 0, 0, 0⟩ n), (22, iT (↑n : Int)), (23, iT ((↑i : Int) + 1))] ∧ H' = hpL [(0, cK false n a b), (1, cK false n x y), (2, .cells true 1 n (.fn fun j => bif Nat.beq j (0 + i) then [.cpx true (fadd (a (0 + i)) (x (0 + i))) (fadd (b (0 + i)) (y (0 + i)))] else q j))]) (e = .exit 0 ∧ fr' = frL [(1, .slc true false ⟨false, 1, 0, 0⟩ n), (2, .fn (.func 51) [] []), (9, sL 2 n), (21, .slc true false ⟨false, 0, 0, 0⟩ n), (22, iT (↑n : Int)), (23, iT (↑i : Int))] ∧ H' = hpL [(0, cK false n a b), (1, cK false n x y), (2, .cells true 1 n (Cont.fn q))])) := cD (fun q0 t0 => rcV (adL_r0 n i a b x y q t0 (by omega) (by omega) (by omega) (by omega) (by omega) (by omega) (by omega) (x0 t0)) hB) (fun q0 t0 => rcV (adL_r1 n i a b x y q t0) hB)
theorem adZ_r0 (n : Nat) (q : Nat → List AV) : PieceN 3 (Ex.ret) [(6, sL 2 n), (7, .int false .i64 0)] [(2, .cells true 1 n (Cont.fn q))] (piececallV Try.f49 (nav [1,1,1,1] (bodyOf Try.f49)) (frL [(9, sL 2 n)]) (hpL [(2, .cells true 1 (n) (.fn q))]) 3 []) := eqn (by kernel_rfl) trivial
theorem adZ (B : Nat) (hB : B ≤ 3) (n i : Nat) (a b x y : Nat → Nat) (q : Nat → List AV) : GoesB Try.prog (nav [1,1,1,1] (bodyOf Try.f49)) Try.f49.ntmps B 3 3 (frL [(9, sL 2 n)]) (hpL [(2, .cells true 1 (n) (.fn q))]) fun e fr' H' => (e = .ret ∧ fr' = frL [(6, sL 2 n), (7, .int false .i64 0)] ∧ H' = hpL [(2, .cells true 1 n (Cont.fn q))]) := rcV (adZ_r0 n q) hB
theorem suA_r0 (n m : Nat) (a b x y : Nat → Nat) : PieceN 2 (Ex.normal) [(0, .slc true false ⟨false, 0, 0, 0⟩ n), (1, .slc true false ⟨false, 1, 0, 0⟩ m), (2, .fn (Go.Fn.func (57 : Go.FuncId)) [] [])] [(0, cK false n a b), (1, cK false m x y)] (piececallV Try.f49 (nav [0] (bodyOf Try.f49)) (frameOf [slcV 0 n, slcV 1 m, .fn (.func 57) [] []] 0 .e) (hpL [(0, cK false n a b), (1, cK false m x y)]) 2 []) := eqn (by kernel_rfl) trivial
theorem suA (B : Nat) (hB : B ≤ 2) (n m : Nat) (a b x y : Nat → Nat) : GoesB Try.prog (nav [0] (bodyOf Try.f49)) Try.f49.ntmps B 2 2 (frameOf [slcV 0 n, slcV 1 m, .fn (.func 57) [] []] 0 .e) (hpL [(0, cK false n a b), (1, cK false m x y)]) fun e fr' H' => (e = .normal ∧ fr' = frL [(0, .slc true false ⟨false, 0, 0, 0⟩ n), (1, .slc true false ⟨false, 1, 0, 0⟩ m), (2, .fn (Go.Fn.func (57 : Go.FuncId)) [] [])] ∧ H' = hpL [(0, cK false n a b), (1, cK false m x y)]) := rcV (suA_r0 n m a b x y) hB
theorem suC_r0 (n m : Nat) (a b x y : Nat → Nat) (c0 : 0 + n ≤ n) (c1 : Nat.le (n * 16) 140737488355328) (c2 : ∀ (j : Nat), j < n → CRow [.cpx true (a (0 + j)) (b (0 + j))]) (c3 : ∀ (j : Nat), j < n → ∀ (u : AV), u ∈ [AV.cpx true (a (0 + j)) (b (0 + j))] → AV.low 0 u = true) (c4 : 0 + m ≤ m) (c5 : Nat.le (m * 16) 140737488355328) (c6 : ∀ (j : Nat), j < m → CRow [.cpx true (x (0 + j)) (y (0 + j))]) (c7 : ∀ (j : Nat), j < m → ∀ (u : AV), u ∈ [AV.cpx true (x (0 + j)) (y (0 + j))] → AV.low 0 u = true) (c8 : (!decide (vmay n m = (0 : Int))) = false) : PieceN 2 (Ex.normal) [(0, .slc true false ⟨false, 0, 0, 0⟩ n), (1, .slc true false ⟨false, 1, 0, 0⟩ m), (2, .fn (Go.Fn.func (57 : Go.FuncId)) [] [])] [(0, cK false n a b), (1, cK false m x y)] (piececallV Try.f49 (nav [1,0] (bodyOf Try.f49)) (frL [(0, slcV 0 n), (1, slcV 1 m), (2, .fn (.func 57) [] [])]) (hpL [(0, cK false n a b), (1, cK false m x y)]) 2 [false]) := eqn (by kernel_rfl) (ai (ai (ai (ai (ai trivial c0) (ai (ai c1 c2) c3)) c4) (ai (ai c5 c6) c7)) c8)
theorem suC_r1 (n m : Nat) (a b x y : Nat → Nat) (c0 : 0 + n ≤ n) (c1 : Nat.le (n * 16) 140737488355328) (c2 : ∀ (j : Nat), j < n → CRow [.cpx true (a (0 + j)) (b (0 + j))]) (c3 : ∀ (j : Nat), j < n → ∀ (u : AV), u ∈ [AV.cpx true (a (0 + j)) (b (0 + j))] → AV.low 0 u = true) (c4 : 0 + m ≤ m) (c5 : Nat.le (m * 16) 140737488355328) (c6 : ∀ (j : Nat), j < m → CRow [.cpx true (x (0 + j)) (y (0 + j))]) (c7 : ∀ (j : Nat), j < m → ∀ (u : AV), u ∈ [AV.cpx true (x (0 + j)) (y (0 + j))] → AV.low 0 u = true) (c8 : (!decide (vmay n m = (0 : Int))) = true) : PieceN 2 (Ex.ret) [(0, .slc true false ⟨false, 0, 0, 0⟩ n), (1, .slc true false ⟨false, 1, 0, 0⟩ m), (2, .fn (Go.Fn.func (57 : Go.FuncId)) [] []), (6, .nils), (7, iT (vmay n m))] [(0, cK false n a b), (1, cK false m x y)] (piececallV Try.f49 (nav [1,0] (bodyOf Try.f49)) (frL [(0, slcV 0 n), (1, slcV 1 m), (2, .fn (.func 57) [] [])]) (hpL [(0, cK false n a b), (1, cK false m x y)]) 2 [true]) := eqn (by kernel_rfl) (ai (ai (ai (ai (ai trivial c0) (ai (ai c1 c2) c3)) c4) (ai (ai c5 c6) c7)) c8)
theorem suC (B : Nat) (hB : B ≤ 2) (n m : Nat) (a b x y : Nat → Nat) (x0 : (Nat.le (n * 16) 140737488355328)) (x1 : (∀ (j : Nat), j < n → CRow [.cpx true (a (0 + j)) (b (0 + j))])) (x2 : (∀ (j : Nat), j < n → ∀ (u : AV), u ∈ [AV.cpx true (a (0 + j)) (b (0 + j))] → AV.low 0 u = true)) (x3 : (Nat.le (m * 16) 140737488355328)) (x4 : (∀ (j : Nat), j < m → CRow [.cpx true (x (0 + j)) (y (0 + j))])) (x5 : (∀ (j : Nat), j < m → ∀ (u : AV), u ∈ [AV.cpx true (x (0 + j)) (y (0 + j))] → AV.low 0 u = true)) : GoesB Try.prog (nav [1,0] (bodyOf Try.f49)) Try.f49.ntmps B 2 2 (frL [(0, slcV 0 n), (1, slcV 1 m), (2, .fn (.func 57) [] [])]) (hpL [(0, cK false n a b), (1, cK false m x y)]) fun e fr' H' => (cond (decide (vmay n m = (0 : Int))) (e = .normal ∧ fr' = frL [(0, .slc true false ⟨false, 0, 0, 0⟩ n), (1, .slc true false ⟨false, 1, 0, 0⟩ m), (2, .fn (Go.Fn.func (57 : Go.FuncId)) [] [])] ∧ H' = hpL [(0, cK false n a b), (1, cK false m x y)]) (e = .ret ∧ fr' = frL [(0, .slc true false ⟨false, 0, 0, 0⟩ n), (1, .slc true false ⟨false, 1, 0, 0⟩ m), (2, .fn (Go.Fn.func (57 : Go.FuncId)) [] []), (6, .nils), (7, iT (vmay n m))] ∧ H' = hpL [(0, cK false n a b), (1, cK false m x y)])) := cD (fun q0 t0 => rcV (suC_r0 n m a b x y (by omega) x0 x1 x2 (by omega) x3 x4 x5 (by rw [t0]; rfl)) hB) (fun q0 t0 => rcV (suC_r1 n m a b x y (by omega) x0 x1 x2 (by omega) x3 x4 x5 (by rw [t0]; rfl)) hB)
theorem suD_r0 (n : Nat) (a b x y : Nat → Nat) (c0 : 0 ≤ (↑n : Int)) (c1 : (↑n : Int) ≤ (↑n : Int)) (c2 : 16 * (↑n : Int) ≤ 140737488355328) (c3 : (↑n : Int) ≤ 9223372036854775807) : PieceN 3 (Ex.normal) [(0, .slc true false ⟨false, 0, 0, 0⟩ n), (1, .slc true false ⟨false, 1, 0, 0⟩ n), (2, .fn (Go.Fn.func (57 : Go.FuncId)) [] []), (9, sL 2 n)] [(0, cK false n a b), (1, cK false n x y), (2, .cells true 1 n (.fn fun x => [.cpx false 0 0]))] (piececallV Try.f49 (nav [1,1,0] (bodyOf Try.f49)) (frL [(0, slcV 0 n), (1, slcV 1 n), (2, .fn (.func 57) [] [])]) (hpL [(0, cK false n a b), (1, cK false n x y)]) 2 []) := eqn (by kernel_rfl) (ai trivial (ai c0 (ai c1 (ai c2 c3))))
theorem suD (B : Nat) (hB : B ≤ 2) (n m : Nat) (a b x y : Nat → Nat) (x0 : (16 * (↑n : Int) ≤ 140737488355328)) (x1 : ((↑n : Int) ≤ 9223372036854775807)) : GoesB Try.prog (nav [1,1,0] (bodyOf Try.f49)) Try.f49.ntmps B 2 3 (frL [(0, slcV 0 n), (1, slcV 1 n), (2, .fn (.func 57) [] [])]) (hpL [(0, cK false n a b), (1, cK false n x y)]) fun e fr' H' => (e = .normal ∧ fr' = frL [(0, .slc true false ⟨false, 0, 0, 0⟩ n), (1, .slc true false ⟨false, 1, 0, 0⟩ n), (2, .fn (Go.Fn.func (57 : Go.FuncId)) [] []), (9, sL 2 n)] ∧ H' = hpL [(0, cK false n a b), (1, cK false n x y), (2, .cells true 1 n (.fn fun x => [.cpx false 0 0]))]) := rcV (suD_r0 n a b x y (by omega) (by omega) x0 x1) hB
theorem suE_r0 (n : Nat) (a b x y : Nat → Nat) (q : Nat → List AV) : PieceN 3 (Ex.normal) [(1, .slc true false ⟨false, 1, 0, 0⟩ n), (2, .fn (Go.Fn.func (57 : Go.FuncId)) [] []), (9, sL 2 n), (21, .slc true false ⟨false, 0, 0, 0⟩ n), (22, iT (↑n : Int)), (23, .int false .i64 0)] [(0, cK false n a b), (1, cK false n x y), (2, .cells true 1 n (Cont.fn q))] (piececallV Try.f49 (nav [1,1,1,0,0] (bodyOf Try.f49)) (frL [(0, slcV 0 n), (1, slcV 1 n), (2, .fn (.func 57) [] []), (9, sL 2 n)]) (hpL [(0, cK false n a b), (1, cK false n x y), (2, .cells true 1 (n) (.fn q))]) 3 []) := eqn (by kernel_rfl) trivial
theorem suE (B : Nat) (hB : B ≤ 3) (n i : Nat) (a b x y : Nat → Nat) (q : Nat → List AV) : GoesB Try.prog (nav [1,1,1,0,0] (bodyOf Try.f49)) Try.f49.ntmps B 3 3 (frL [(0, slcV 0 n), (1, slcV 1 n), (2, .fn (.func 57) [] []), (9, sL 2 n)]) (hpL [(0, cK false n a b), (1, cK false n x y), (2, .cells true 1 (n) (.fn q))]) fun e fr' H' => (e = .normal ∧ fr' = frL [(1, .slc true false ⟨false, 1, 0, 0⟩ n), (2, .fn (Go.Fn.func (57 : Go.FuncId)) [] []), (9, sL 2 n), (21, .slc true false ⟨false, 0, 0, 0⟩ n), (22, iT (↑n : Int)), (23, .int false .i64 0)] ∧ H' = hpL [(0, cK false n a b), (1, cK false n x y), (2, .cells true 1 n (Cont.fn q))]) := rcV (suE_r0 n a b x y q) hB
theorem suL_r0 (n i : Nat) (a b x y : Nat → Nat) (q : Nat → List AV) (c0 : decide ((↑i : Int) < (↑n : Int)) = true) (c1 : 0 ≤ (↑i : Int)) (c2 : (↑i : Int) < (↑n : Int)) (c3 : 0 + i < n) (c4 : 0 + i < n) (c5 : 0 + i < n) (c6 : 1 ≤ 1) (c7 : -9223372036854775808 ≤ (↑i : Int) + 1) (c8 : (↑i : Int) + 1 ≤ (9223372036854775807 : Int)) : PieceN 3 (Ex.normal) [(1, .slc true false ⟨false, 1, 0, 0⟩ n), (2, .fn (Go.Fn.func (57 : Go.FuncId)) [] []), (9, sL 2 n), (21, .slc true false ⟨false, 0, 0, 0⟩ n), (22, iT (↑n : Int)), (23, iT ((↑i : Int) + 1))] [(0, cK false n a b), (1, cK false n x y), (2, .cells true 1 n (.fn fun j => bif Nat.beq j (0 + i) then [.cpx true (fsub (a (0 + i)) (x (0 + i))) (fsub (b (0 + i)) (y (0 + i)))] else q j))] (piececallV Try.f49 (nav [1,1,1,0,1,0,0] (bodyOf Try.f49)) (frL [(1, slcV 1 n), (2, .fn (.func 57) [] []), (9, sL 2 n), (21, slcV 0 n), (22, iT n), (23, iT i)]) (hpL [(0, cK false n a b), (1, cK false n x y), (2, .cells true 1 (n) (.fn q))]) 3 [true]) := eqn (by kernel_rfl) (ai (ai (ai (ai (ai (ai (ai (ai (ai trivial c0) (ai c1 c2)) c3) (ai c1 c2)) c4) (ai c1 c2)) c5) c6) (ai c7 c8))
theorem suL_r1 (n i : Nat) (a b x y : Nat → Nat) (q : Nat → List AV) (c0 : decide ((↑i : Int) < (↑n : Int)) = false) : PieceN 3 (Ex.exit 0) [(1, .slc true false ⟨false, 1, 0, 0⟩ n), (2, .fn (Go.Fn.func (57 : Go.FuncId)) [] []), (9, sL 2 n), (21, .slc true false ⟨false, 0, 0, 0⟩ n), (22, iT (↑n : Int)), (23, iT (↑i : Int))] [(0, cK false n a b), (1, cK false n x y), (2, .cells true 1 n (Cont.fn q))] (piececallV Try.f49 (nav [1,1,1,0,1,0,0] (bodyOf Try.f49)) (frL [(1, slcV 1 n), (2, .fn (.func 57) [] []), (9, sL 2 n), (21, slcV 0 n), (22, iT n), (23, iT i)]) (hpL [(0, cK false n a b), (1, cK false n x y), (2, .cells true 1 (n) (.fn q))]) 3 [false]) := eqn (by kernel_rfl) (ai trivial c0)
theorem suL (B : Nat) (hB : B ≤ 3) (n i : Nat) (a b x y : Nat → Nat) (q : Nat → List AV) (x0 : ((decide ((↑i : Int) < (↑n : Int))) = true → ((↑i : Int) + 1 ≤ (9223372036854775807 : Int)))) : GoesB Try.prog (nav [1,1,1,0,1,0,0] (bodyOf Try.f49)) Try.f49.ntmps B 3 3 (frL [(1, slcV 1 n), (2, .fn (.func 57) [] []), (9, sL 2 n), (21, slcV 0 n), (22, iT n), (23, iT i)]) (hpL [(0, cK false n a b), (1, cK false n x y), (2, .cells true 1 (n) (.fn q))]) fun e fr' H' => (cond (decide ((↑i : Int) < (↑n : Int))) (e = .normal ∧ fr' = frL [(1, .slc true false ⟨false, 1, 0, 0⟩ n), (2, .fn (Go.Fn.func (57 : Go.FuncId)) [] []), (9, sL 2 n), (21, .slc true false ⟨false, 0, 0, 0⟩ n), (22, iT (↑n : Int)), (23, iT ((↑i : Int) + 1))] ∧ H' = hpL [(0, cK false n a b), (1, cK false n x y), (2, .cells true 1 n (.fn fun j => bif Nat.beq j (0 + i) then [.cpx true (fsub (a (0 + i)) (x (0 + i))) (fsub (b (0 + i)) (y (0 + i)))] else q j))]) (e = .exit 0 ∧ fr' = frL [(1, .slc true false ⟨false, 1, 0, 0⟩ n), (2, .fn (Go.Fn.func (57 : Go.FuncId)) [] []), (9, sL 2 n), (21, .slc true false ⟨false, 0, 0, 0⟩ n), (22, iT (↑n : Int)), (23, iT (↑i : Int))] ∧ H' = hpL [(0, cK false n a b), (1, cK false n x y), (2, .cells true 1 n (Cont.fn q))])) := cD (fun q0 t0 => rcV (suL_r0 n i a b x y q t0 (by omega) (by omega) (by omega) (by omega) (by omega) (by omega) (by omega) (x0 t0)) hB) (fun q0 t0 => rcV (suL_r1 n i a b x y q t0) hB)
theorem suZ_r0 (n : Nat) (q : Nat → List AV) : PieceN 3 (Ex.ret) [(6, sL 2 n), (7, .int false .i64 0)] [(2, .cells true 1 n (Cont.fn q))] (piececallV Try.f49 (nav [1,1,1,1] (bodyOf Try.f49)) (frL [(9, sL 2 n)]) (hpL [(2, .cells true 1 (n) (.fn q))]) 3 []) := eqn (by kernel_rfl) trivial
theorem suZ (B : Nat) (hB : B ≤ 3) (n i : Nat) (a b x y : Nat → Nat) (q : Nat → List AV) : GoesB Try.prog (nav [1,1,1,1] (bodyOf Try.f49)) Try.f49.ntmps B 3 3 (frL [(9, sL 2 n)]) (hpL [(2, .cells true 1 (n) (.fn q))]) fun e fr' H' => (e = .ret ∧ fr' = frL [(6, sL 2 n), (7, .int false .i64 0)] ∧ H' = hpL [(2, .cells true 1 n (Cont.fn q))]) := rcV (suZ_r0 n q) hB
theorem doA_r0 (n m : Nat) (a b x y : Nat → Nat) : PieceN 2 (Ex.normal) [(0, .slc true false ⟨false, 0, 0, 0⟩ n), (1, .slc true false ⟨false, 1, 0, 0⟩ m)] [(0, cK false n a b), (1, cK false m x y)] (piececallV Try.f21 (nav [0] (bodyOf Try.f21)) (frameOf [slcV 0 n, slcV 1 m] 0 .e) (hpL [(0, cK false n a b), (1, cK false m x y)]) 2 []) := eqn (by kernel_rfl) trivial
theorem doA (B : Nat) (hB : B ≤ 2) (n m : Nat) (a b x y : Nat → Nat) : GoesB Try.prog (nav [0] (bodyOf Try.f21)) Try.f21.ntmps B 2 2 (frameOf [slcV 0 n, slcV 1 m] 0 .e) (hpL [(0, cK false n a b), (1, cK false m x y)]) fun e fr' H' => (e = .normal ∧ fr' = frL [(0, .slc true false ⟨false, 0, 0, 0⟩ n), (1, .slc true false ⟨false, 1, 0, 0⟩ m)] ∧ H' = hpL [(0, cK false n a b), (1, cK false m x y)]) := rcV (doA_r0 n m a b x y) hB
theorem doC_r0 (n m : Nat) (a b x y : Nat → Nat) (c0 : 0 + n ≤ n) (c1 : Nat.le (n * 16) 140737488355328) (c2 : ∀ (j : Nat), j < n → CRow [.cpx true (a (0 + j)) (b (0 + j))]) (c3 : ∀ (j : Nat), j < n → ∀ (u : AV), u ∈ [AV.cpx true (a (0 + j)) (b (0 + j))] → AV.low 0 u = true) (c4 : 0 + m ≤ m) (c5 : Nat.le (m * 16) 140737488355328) (c6 : ∀ (j : Nat), j < m → CRow [.cpx true (x (0 + j)) (y (0 + j))]) (c7 : ∀ (j : Nat), j < m → ∀ (u : AV), u ∈ [AV.cpx true (x (0 + j)) (y (0 + j))] → AV.low 0 u = true) (c8 : (!decide (vmay n m = (0 : Int))) = false) : PieceN 2 (Ex.normal) [(0, .slc true false ⟨false, 0, 0, 0⟩ n), (1, .slc true false ⟨false, 1, 0, 0⟩ m)] [(0, cK false n a b), (1, cK false m x y)] (piececallV Try.f21 (nav [1,0] (bodyOf Try.f21)) (frL [(0, slcV 0 n), (1, slcV 1 m)]) (hpL [(0, cK false n a b), (1, cK false m x y)]) 2 [false]) := eqn (by kernel_rfl) (ai (ai (ai (ai (ai trivial c0) (ai (ai c1 c2) c3)) c4) (ai (ai c5 c6) c7)) c8)
theorem doC_r1 (n m : Nat) (a b x y : Nat → Nat) (c0 : 0 + n ≤ n) (c1 : Nat.le (n * 16) 140737488355328) (c2 : ∀ (j : Nat), j < n → CRow [.cpx true (a (0 + j)) (b (0 + j))]) (c3 : ∀ (j : Nat), j < n → ∀ (u : AV), u ∈ [AV.cpx true (a (0 + j)) (b (0 + j))] → AV.low 0 u = true) (c4 : 0 + m ≤ m) (c5 : Nat.le (m * 16) 140737488355328) (c6 : ∀ (j : Nat), j < m → CRow [.cpx true (x (0 + j)) (y (0 + j))]) (c7 : ∀ (j : Nat), j < m → ∀ (u : AV), u ∈ [AV.cpx true (x (0 + j)) (y (0 + j))] → AV.low 0 u = true) (c8 : (!decide (vmay n m = (0 : Int))) = true) : PieceN 2 (Ex.ret) [(0, .slc true false ⟨false, 0, 0, 0⟩ n), (1, .slc true false ⟨false, 1, 0, 0⟩ m), (4, .cpx false 0 0), (5, iT (vmay n m))] [(0, cK false n a b), (1, cK false m x y)] (piececallV Try.f21 (nav [1,0] (bodyOf Try.f21)) (frL [(0, slcV 0 n), (1, slcV 1 m)]) (hpL [(0, cK false n a b), (1, cK false m x y)]) 2 [true]) := eqn (by kernel_rfl) (ai (ai (ai (ai (ai trivial c0) (ai (ai c1 c2) c3)) c4) (ai (ai c5 c6) c7)) c8)
theorem doC (B : Nat) (hB : B ≤ 2) (n m : Nat) (a b x y : Nat → Nat) (x0 : (Nat.le (n * 16) 140737488355328)) (x1 : (∀ (j : Nat), j < n → CRow [.cpx true (a (0 + j)) (b (0 + j))])) (x2 : (∀ (j : Nat), j < n → ∀ (u : AV), u ∈ [AV.cpx true (a (0 + j)) (b (0 + j))] → AV.low 0 u = true)) (x3 : (Nat.le (m * 16) 140737488355328)) (x4 : (∀ (j : Nat), j < m → CRow [.cpx true (x (0 + j)) (y (0 + j))])) (x5 : (∀ (j : Nat), j < m → ∀ (u : AV), u ∈ [AV.cpx true (x (0 + j)) (y (0 + j))] → AV.low 0 u = true)) : GoesB Try.prog (nav [1,0] (bodyOf Try.f21)) Try.f21.ntmps B 2 2 (frL [(0, slcV 0 n), (1, slcV 1 m)]) (hpL [(0, cK false n a b), (1, cK false m x y)]) fun e fr' H' => (cond (decide (vmay n m = (0 : Int))) (e = .normal ∧ fr' = frL [(0, .slc true false ⟨false, 0, 0, 0⟩ n), (1, .slc true false ⟨false, 1, 0, 0⟩ m)] ∧ H' = hpL [(0, cK false n a b), (1, cK false m x y)]) (e = .ret ∧ fr' = frL [(0, .slc true false ⟨false, 0, 0, 0⟩ n), (1, .slc true false ⟨false, 1, 0, 0⟩ m), (4, .cpx false 0 0), (5, iT (vmay n m))] ∧ H' = hpL [(0, cK false n a b), (1, cK false m x y)])) := cD (fun q0 t0 => rcV (doC_r0 n m a b x y (by omega) x0 x1 x2 (by omega) x3 x4 x5 (by rw [t0]; rfl)) hB) (fun q0 t0 => rcV (doC_r1 n m a b x y (by omega) x0 x1 x2 (by omega) x3 x4 x5 (by rw [t0]; rfl)) hB)
theorem doD_r0 (n : Nat) (a b x y : Nat → Nat) : PieceN 2 (Ex.normal) [(0, .slc true false ⟨false, 0, 0, 0⟩ n), (1, .slc true false ⟨false, 1, 0, 0⟩ n), (7, .cpx false 0 0)] [(0, cK false n a b), (1, cK false n x y)] (piececallV Try.f21 (nav [1,1,0] (bodyOf Try.f21)) (frL [(0, slcV 0 n), (1, slcV 1 n)]) (hpL [(0, cK false n a b), (1, cK false n x y)]) 2 []) := eqn (by kernel_rfl) trivial
theorem doD (B : Nat) (hB : B ≤ 2) (n m : Nat) (a b x y : Nat → Nat) : GoesB Try.prog (nav [1,1,0] (bodyOf Try.f21)) Try.f21.ntmps B 2 2 (frL [(0, slcV 0 n), (1, slcV 1 n)]) (hpL [(0, cK false n a b), (1, cK false n x y)]) fun e fr' H' => (e = .normal ∧ fr' = frL [(0, .slc true false ⟨false, 0, 0, 0⟩ n), (1, .slc true false ⟨false, 1, 0, 0⟩ n), (7, .cpx false 0 0)] ∧ H' = hpL [(0, cK false n a b), (1, cK false n x y)]) := rcV (doD_r0 n a b x y) hB
theorem doE_r0 (n s t : Nat) (a b x y : Nat → Nat) : PieceN 2 (Ex.normal) [(1, .slc true false ⟨false, 1, 0, 0⟩ n), (7, .cpx true s t), (16, .slc true false ⟨false, 0, 0, 0⟩ n), (17, iT (↑n : Int)), (18, .int false .i64 0)] [(0, cK false n a b), (1, cK false n x y)] (piececallV Try.f21 (nav [1,1,1,0,0] (bodyOf Try.f21)) (frL [(0, slcV 0 n), (1, slcV 1 n), (7, .cpx true s t)]) (hpL [(0, cK false n a b), (1, cK false n x y)]) 2 []) := eqn (by kernel_rfl) trivial
theorem doE (B : Nat) (hB : B ≤ 2) (n i s t : Nat) (a b x y : Nat → Nat) : GoesB Try.prog (nav [1,1,1,0,0] (bodyOf Try.f21)) Try.f21.ntmps B 2 2 (frL [(0, slcV 0 n), (1, slcV 1 n), (7, .cpx true s t)]) (hpL [(0, cK false n a b), (1, cK false n x y)]) fun e fr' H' => (e = .normal ∧ fr' = frL [(1, .slc true false ⟨false, 1, 0, 0⟩ n), (7, .cpx true s t), (16, .slc true false ⟨false, 0, 0, 0⟩ n), (17, iT (↑n : Int)), (18, .int false .i64 0)] ∧ H' = hpL [(0, cK false n a b), (1, cK false n x y)]) := rcV (doE_r0 n s t a b x y) hB
theorem doL_r0 (n i s t : Nat) (a b x y : Nat → Nat) (c0 : decide ((↑i : Int) < (↑n : Int)) = true) (c1 : 0 ≤ (↑i : Int)) (c2 : (↑i : Int) < (↑n : Int)) (c3 : 0 + i < n) (c4 : 0 + i < n) (c5 : -9223372036854775808 ≤ (↑i : Int) + 1) (c6 : (↑i : Int) + 1 ≤ (9223372036854775807 : Int)) : PieceN 2 (Ex.normal) [(1, .slc true false ⟨false, 1, 0, 0⟩ n), (7, .cpx true (fadd s (fsub (fmul (a (0 + i)) (x (0 + i))) (fmul (b (0 + i)) (y (0 + i))))) (fadd t (fadd (fmul (a (0 + i)) (y (0 + i))) (fmul (b (0 + i)) (x (0 + i)))))), (16, .slc true false ⟨false, 0, 0, 0⟩ n), (17, iT (↑n : Int)), (18, iT ((↑i : Int) + 1))] [(0, cK false n a b), (1, cK false n x y)] (piececallV Try.f21 (nav [1,1,1,0,1,0,0] (bodyOf Try.f21)) (frL [(1, slcV 1 n), (7, .cpx true s t), (16, slcV 0 n), (17, iT n), (18, iT i)]) (hpL [(0, cK false n a b), (1, cK false n x y)]) 2 [true]) := eqn (by kernel_rfl) (ai (ai (ai (ai (ai (ai trivial c0) (ai c1 c2)) c3) (ai c1 c2)) c4) (ai c5 c6))
theorem doL_r1 (n i s t : Nat) (a b x y : Nat → Nat) (c0 : decide ((↑i : Int) < (↑n : Int)) = false) : PieceN 2 (Ex.exit 0) [(1, .slc true false ⟨false, 1, 0, 0⟩ n), (7, .cpx true s t), (16, .slc true false ⟨false, 0, 0, 0⟩ n), (17, iT (↑n : Int)), (18, iT (↑i : Int))] [(0, cK false n a b), (1, cK false n x y)] (piececallV Try.f21 (nav [1,1,1,0,1,0,0] (bodyOf Try.f21)) (frL [(1, slcV 1 n), (7, .cpx true s t), (16, slcV 0 n), (17, iT n), (18, iT i)]) (hpL [(0, cK false n a b), (1, cK false n x y)]) 2 [false]) := eqn (by kernel_rfl) (ai trivial c0)
theorem doL (B : Nat) (hB : B ≤ 2) (n i s t : Nat) (a b x y : Nat → Nat) (x0 : ((decide ((↑i : Int) < (↑n : Int))) = true → ((↑i : Int) + 1 ≤ (9223372036854775807 : Int)))) : GoesB Try.prog (nav [1,1,1,0,1,0,0] (bodyOf Try.f21)) Try.f21.ntmps B 2 2 (frL [(1, slcV 1 n), (7, .cpx true s t), (16, slcV 0 n), (17, iT n), (18, iT i)]) (hpL [(0, cK false n a b), (1, cK false n x y)]) fun e fr' H' => (cond (decide ((↑i : Int) < (↑n : Int))) (e = .normal ∧ fr' = frL [(1, .slc true false ⟨false, 1, 0, 0⟩ n), (7, .cpx true (fadd s (fsub (fmul (a (0 + i)) (x (0 + i))) (fmul (b (0 + i)) (y (0 + i))))) (fadd t (fadd (fmul (a (0 + i)) (y (0 + i))) (fmul (b (0 + i)) (x (0 + i)))))), (16, .slc true false ⟨false, 0, 0, 0⟩ n), (17, iT (↑n : Int)), (18, iT ((↑i : Int) + 1))] ∧ H' = hpL [(0, cK false n a b), (1, cK false n x y)]) (e = .exit 0 ∧ fr' = frL [(1, .slc true false ⟨false, 1, 0, 0⟩ n), (7, .cpx true s t), (16, .slc true false ⟨false, 0, 0, 0⟩ n), (17, iT (↑n : Int)), (18, iT (↑i : Int))] ∧ H' = hpL [(0, cK false n a b), (1, cK false n x y)])) := cD (fun q0 t0 => rcV (doL_r0 n i s t a b x y t0 (by omega) (by omega) (by omega) (by omega) (by omega) (x0 t0)) hB) (fun q0 t0 => rcV (doL_r1 n i s t a b x y t0) hB)
theorem doZ_r0 (s t : Nat) : PieceN 2 (Ex.ret) [(4, .cpx true s t), (5, .int false .i64 0)] [] (piececallV Try.f21 (nav [1,1,1,1] (bodyOf Try.f21)) (frL [(7, .cpx true s t)]) (hpL []) 2 []) := eqn (by kernel_rfl) trivial
theorem doZ (B : Nat) (hB : B ≤ 2) (n i s t : Nat) (a b x y : Nat → Nat) : GoesB Try.prog (nav [1,1,1,1] (bodyOf Try.f21)) Try.f21.ntmps B 2 2 (frL [(7, .cpx true s t)]) (hpL []) fun e fr' H' => (e = .ret ∧ fr' = frL [(4, .cpx true s t), (5, .int false .i64 0)] ∧ H' = hpL []) := rcV (doZ_r0 s t) hB
theorem ad_is : (bodyOf Try.f49) = .seq (nav [0] (bodyOf Try.f49)) (.seq (nav [1,0] (bodyOf Try.f49)) (.seq (nav [1,1,0] (bodyOf Try.f49)) (.seq (.seq (nav [1,1,1,0,0] (bodyOf Try.f49)) (.block 0 (.loop (nav [1,1,1,0,1,0,0] (bodyOf Try.f49))))) (nav [1,1,1,1] (bodyOf Try.f49))))) := by kernel_rfl
theorem ad_goes (n m : Nat) (a b x y : Nat → Nat) (hn : lenOk n) (hm : lenOk m) (hw : CW n a b) (hw' : CW m x y) :
  GoesB Try.prog (bodyOf Try.f49) Try.f49.ntmps 2 2 3 (frameOf [slcV 0 n, slcV 1 m, .fn (.func 51) [] []] 0 .e) (hpL [(0, cK false n a b), (1, cK false m x y)]) fun e fr' H' => e = .ret ∧ ((vmay n m ≠ 0 ∧ fr'.get 6 = some .nils ∧ fr'.get 7 = some (iT (vmay n m))) ∨ (vmay n m = 0 ∧ fr' = frL [(6, sL 2 n), (7, .int false .i64 0)] ∧ H' = hpL [(2, .cells true 1 (n) (.fn fun j => [.cpx true (fadd (a j) (x j)) (fadd (b j) (y j))]))])) := by
 rw [ad_is]
 refine GoesB.seq (K1 := 2) (by omega) ((adA 2 (by omega) n m a b x y ).mono fun e fr' H' ⟨e1, e2, e3⟩ => ?_)
 subst e1 e2 e3
 refine GoesB.seq (K1 := 2) (by omega) ((adC 2 (by omega) n m a b x y (by exact hn) (fun j hj => by simpa only [Nat.zero_add] using cw_row hw j hj) (fun j hj u hu => low_c hu) (by exact hm) (fun j hj => by simpa only [Nat.zero_add] using cw_row hw' j hj) (fun j hj u hu => low_c hu)).mono fun e fr' H' h => ?_)
 refine cond_elim h (fun t h => ?_) (fun t h => ?_)
 case refine_2 =>
  obtain ⟨rfl, rfl, rfl⟩ := h
  exact ⟨rfl, .inl ⟨of_decide_eq_false t, rfl, rfl⟩⟩
 obtain ⟨rfl, rfl, rfl⟩ := h
 have he := of_decide_eq_true t
 obtain ⟨rfl, h64⟩ := vmay_eq he
 refine GoesB.seq (K1 := 3) (by omega) ((adD 2 (by omega) n n a b x y (by omega) (by omega)).mono fun e fr' H' ⟨e1, e2, e3⟩ => ?_)
 subst e1 e2 e3
 refine GoesB.seq (K1 := 3) (by omega) (GoesB.seq (K1 := 3) (by omega) ((adE 2 (by omega) n 0 a b x y (fun _ => [AV.cpx false 0 0])).mono fun e fr' H' ⟨e1, e2, e3⟩ => ?_))
 subst e1 e2 e3
 refine GoesB.weakL (fl := [(1, slcV 1 n), (2, .fn (.func 51) [] []), (9, sL 2 n), (21, slcV 0 n), (22, iT (n : Nat)), (23, iT ((0 : Nat) : Int))]) (bl := [(0, cK false n a b), (1, cK false n x y), (2, .cells true 1 (n) (.fn (fun j => bif decide (j < 0) then (fun j => [.cpx true (fadd (a j) (x j)) (fadd (b j) (y j))]) j else [AV.cpx false 0 0])))]) ⟨re rfl, re rfl, re rfl, re rfl, re rfl, ri rfl, trivial⟩ ⟨hs rfl, hs rfl, ⟨_, rfl, ⟨rfl, rfl, rfl, fun j hj => (row_none (fun j => [.cpx true (fadd (a j) (x j)) (fadd (b j) (y j))]) _ j).symm⟩⟩, trivial⟩ ?_
 refine (GoesB.count n (fun i => [(1, slcV 1 n), (2, .fn (.func 51) [] []), (9, sL 2 n), (21, slcV 0 n), (22, iT (n : Nat)), (23, iT ((i : Nat) : Int))]) (fun i => [(0, cK false n a b), (1, cK false n x y), (2, .cells true 1 (n) (.fn (fun j => bif decide (j < i) then (fun j => [.cpx true (fadd (a j) (x j)) (fadd (b j) (y j))]) j else [AV.cpx false 0 0])))]) [(9, sL 2 n)] [(2, .cells true 1 (n) (.fn fun j => [.cpx true (fadd (a j) (x j)) (fadd (b j) (y j))]))] (fun _ => True) (fun _ _ => False) trivial (fun i hi _ => ?_)).mono fun e fr' H' h => ?_
 ·have hB := adL 2 (by omega) n i a b x y (fun j => bif decide (j < i) then (fun j => [.cpx true (fadd (a j) (x j)) (fadd (b j) (y j))]) j else [AV.cpx false 0 0]) (fun t => by omega)
  simp only [Nat.zero_add] at hB
  refine hB.post fun e fr' H' h => ?_
  refine cond_elim h (fun t h => ?_) (fun t h => ?_)
  ·have hlt : i < n := by have := of_decide_eq_true t; omega
   obtain ⟨rfl, rfl, rfl⟩ := h
   exact ⟨[(1, slcV 1 n), (2, .fn (.func 51) [] []), (9, sL 2 n), (21, slcV 0 n), (22, iT (n : Nat)), (23, iT ((i + 1 : Nat) : Int))], [(0, cK false n a b), (1, cK false n x y), (2, .cells true 1 (n) (.fn (fun j => bif decide (j < i + 1) then (fun j => [.cpx true (fadd (a j) (x j)) (fadd (b j) (y j))]) j else [AV.cpx false 0 0])))], ⟨re rfl, re rfl, re rfl, re rfl, re rfl, ri rfl, trivial⟩, ⟨hs rfl, hs rfl, ⟨_, rfl, ⟨rfl, rfl, rfl, fun j hj => by simpa only [Cont.row] using row_put (fun j => [.cpx true (fadd (a j) (x j)) (fadd (b j) (y j))]) [AV.cpx false 0 0] _ i j⟩⟩, trivial⟩, .inl ⟨rfl, hlt, trivial, rfl, rfl⟩⟩
  ·have e : i = n := by have := of_decide_eq_false t; omega
   subst e
   obtain ⟨rfl, rfl, rfl⟩ := h
   exact ⟨[(9, sL 2 i)], [(2, .cells true 1 (i) (.fn fun j => [.cpx true (fadd (a j) (x j)) (fadd (b j) (y j))]))], ⟨re rfl, trivial⟩, ⟨⟨_, rfl, ⟨rfl, rfl, rfl, fun j hj => row_all (fun j => [.cpx true (fadd (a j) (x j)) (fadd (b j) (y j))]) _ _ j hj⟩⟩, trivial⟩, .inr (.inl ⟨rfl, trivial, rfl, rfl⟩)⟩
 rcases h with ⟨rfl, _, rfl, rfl⟩ | ⟨_, h⟩
 case inr => exact h.elim
 refine (adZ 2 (by omega) n 0 a b x y (fun j => [.cpx true (fadd (a j) (x j)) (fadd (b j) (y j))])).mono fun e fr' H' ⟨e1, e2, e3⟩ => ?_
 subst e1 e2 e3
 exact ⟨rfl, .inr ⟨he, rfl, rfl⟩⟩
theorem su_is : (bodyOf Try.f49) = .seq (nav [0] (bodyOf Try.f49)) (.seq (nav [1,0] (bodyOf Try.f49)) (.seq (nav [1,1,0] (bodyOf Try.f49)) (.seq (.seq (nav [1,1,1,0,0] (bodyOf Try.f49)) (.block 0 (.loop (nav [1,1,1,0,1,0,0] (bodyOf Try.f49))))) (nav [1,1,1,1] (bodyOf Try.f49))))) := by kernel_rfl
theorem su_goes (n m : Nat) (a b x y : Nat → Nat) (hn : lenOk n) (hm : lenOk m) (hw : CW n a b) (hw' : CW m x y) :
  GoesB Try.prog (bodyOf Try.f49) Try.f49.ntmps 2 2 3 (frameOf [slcV 0 n, slcV 1 m, .fn (.func 57) [] []] 0 .e) (hpL [(0, cK false n a b), (1, cK false m x y)]) fun e fr' H' => e = .ret ∧ ((vmay n m ≠ 0 ∧ fr'.get 6 = some .nils ∧ fr'.get 7 = some (iT (vmay n m))) ∨ (vmay n m = 0 ∧ fr' = frL [(6, sL 2 n), (7, .int false .i64 0)] ∧ H' = hpL [(2, .cells true 1 (n) (.fn fun j => [.cpx true (fsub (a j) (x j)) (fsub (b j) (y j))]))])) := by
 rw [su_is]
 refine GoesB.seq (K1 := 2) (by omega) ((suA 2 (by omega) n m a b x y ).mono fun e fr' H' ⟨e1, e2, e3⟩ => ?_)
 subst e1 e2 e3
 refine GoesB.seq (K1 := 2) (by omega) ((suC 2 (by omega) n m a b x y (by exact hn) (fun j hj => by simpa only [Nat.zero_add] using cw_row hw j hj) (fun j hj u hu => low_c hu) (by exact hm) (fun j hj => by simpa only [Nat.zero_add] using cw_row hw' j hj) (fun j hj u hu => low_c hu)).mono fun e fr' H' h => ?_)
 refine cond_elim h (fun t h => ?_) (fun t h => ?_)
 case refine_2 =>
  obtain ⟨rfl, rfl, rfl⟩ := h
  exact ⟨rfl, .inl ⟨of_decide_eq_false t, rfl, rfl⟩⟩
 obtain ⟨rfl, rfl, rfl⟩ := h
 have he := of_decide_eq_true t
 obtain ⟨rfl, h64⟩ := vmay_eq he
 refine GoesB.seq (K1 := 3) (by omega) ((suD 2 (by omega) n n a b x y (by omega) (by omega)).mono fun e fr' H' ⟨e1, e2, e3⟩ => ?_)
 subst e1 e2 e3
 refine GoesB.seq (K1 := 3) (by omega) (GoesB.seq (K1 := 3) (by omega) ((suE 2 (by omega) n 0 a b x y (fun _ => [AV.cpx false 0 0])).mono fun e fr' H' ⟨e1, e2, e3⟩ => ?_))
 subst e1 e2 e3
 refine GoesB.weakL (fl := [(1, slcV 1 n), (2, .fn (.func 57) [] []), (9, sL 2 n), (21, slcV 0 n), (22, iT (n : Nat)), (23, iT ((0 : Nat) : Int))]) (bl := [(0, cK false n a b), (1, cK false n x y), (2, .cells true 1 (n) (.fn (fun j => bif decide (j < 0) then (fun j => [.cpx true (fsub (a j) (x j)) (fsub (b j) (y j))]) j else [AV.cpx false 0 0])))]) ⟨re rfl, re rfl, re rfl, re rfl, re rfl, ri rfl, trivial⟩ ⟨hs rfl, hs rfl, ⟨_, rfl, ⟨rfl, rfl, rfl, fun j hj => (row_none (fun j => [.cpx true (fsub (a j) (x j)) (fsub (b j) (y j))]) _ j).symm⟩⟩, trivial⟩ ?_
 refine (GoesB.count n (fun i => [(1, slcV 1 n), (2, .fn (.func 57) [] []), (9, sL 2 n), (21, slcV 0 n), (22, iT (n : Nat)), (23, iT ((i : Nat) : Int))]) (fun i => [(0, cK false n a b), (1, cK false n x y), (2, .cells true 1 (n) (.fn (fun j => bif decide (j < i) then (fun j => [.cpx true (fsub (a j) (x j)) (fsub (b j) (y j))]) j else [AV.cpx false 0 0])))]) [(9, sL 2 n)] [(2, .cells true 1 (n) (.fn fun j => [.cpx true (fsub (a j) (x j)) (fsub (b j) (y j))]))] (fun _ => True) (fun _ _ => False) trivial (fun i hi _ => ?_)).mono fun e fr' H' h => ?_
 ·have hB := suL 2 (by omega) n i a b x y (fun j => bif decide (j < i) then (fun j => [.cpx true (fsub (a j) (x j)) (fsub (b j) (y j))]) j else [AV.cpx false 0 0]) (fun t => by omega)
  simp only [Nat.zero_add] at hB
  refine hB.post fun e fr' H' h => ?_
  refine cond_elim h (fun t h => ?_) (fun t h => ?_)
  ·have hlt : i < n := by have := of_decide_eq_true t; omega
   obtain ⟨rfl, rfl, rfl⟩ := h
   exact ⟨[(1, slcV 1 n), (2, .fn (.func 57) [] []), (9, sL 2 n), (21, slcV 0 n), (22, iT (n : Nat)), (23, iT ((i + 1 : Nat) : Int))], [(0, cK false n a b), (1, cK false n x y), (2, .cells true 1 (n) (.fn (fun j => bif decide (j < i + 1) then (fun j => [.cpx true (fsub (a j) (x j)) (fsub (b j) (y j))]) j else [AV.cpx false 0 0])))], ⟨re rfl, re rfl, re rfl, re rfl, re rfl, ri rfl, trivial⟩, ⟨hs rfl, hs rfl, ⟨_, rfl, ⟨rfl, rfl, rfl, fun j hj => by simpa only [Cont.row] using row_put (fun j => [.cpx true (fsub (a j) (x j)) (fsub (b j) (y j))]) [AV.cpx false 0 0] _ i j⟩⟩, trivial⟩, .inl ⟨rfl, hlt, trivial, rfl, rfl⟩⟩
  ·have e : i = n := by have := of_decide_eq_false t; omega
   subst e
   obtain ⟨rfl, rfl, rfl⟩ := h
   exact ⟨[(9, sL 2 i)], [(2, .cells true 1 (i) (.fn fun j => [.cpx true (fsub (a j) (x j)) (fsub (b j) (y j))]))], ⟨re rfl, trivial⟩, ⟨⟨_, rfl, ⟨rfl, rfl, rfl, fun j hj => row_all (fun j => [.cpx true (fsub (a j) (x j)) (fsub (b j) (y j))]) _ _ j hj⟩⟩, trivial⟩, .inr (.inl ⟨rfl, trivial, rfl, rfl⟩)⟩
 rcases h with ⟨rfl, _, rfl, rfl⟩ | ⟨_, h⟩
 case inr => exact h.elim
 refine (suZ 2 (by omega) n 0 a b x y (fun j => [.cpx true (fsub (a j) (x j)) (fsub (b j) (y j))])).mono fun e fr' H' ⟨e1, e2, e3⟩ => ?_
 subst e1 e2 e3
 exact ⟨rfl, .inr ⟨he, rfl, rfl⟩⟩
theorem do_is : (bodyOf Try.f21) = .seq (nav [0] (bodyOf Try.f21)) (.seq (nav [1,0] (bodyOf Try.f21)) (.seq (nav [1,1,0] (bodyOf Try.f21)) (.seq (.seq (nav [1,1,1,0,0] (bodyOf Try.f21)) (.block 0 (.loop (nav [1,1,1,0,1,0,0] (bodyOf Try.f21))))) (nav [1,1,1,1] (bodyOf Try.f21))))) := by kernel_rfl
theorem do_goes (n m : Nat) (a b x y : Nat → Nat) (hn : lenOk n) (hm : lenOk m) (hw : CW n a b) (hw' : CW m x y) :
  GoesB Try.prog (bodyOf Try.f21) Try.f21.ntmps 2 2 2 (frameOf [slcV 0 n, slcV 1 m] 0 .e) (hpL [(0, cK false n a b), (1, cK false m x y)]) fun e fr' H' => e = .ret ∧ ∃ u, fr'.get 4 = some u ∧ AV.ge u (.cpx true (doR n m a b x y).1 (doR n m a b x y).2) ∧ ∃ v, fr'.get 5 = some v ∧ AV.ge v (iT (vmay n m)) := by
 rw [do_is]
 refine GoesB.seq (K1 := 2) (by omega) ((doA 2 (by omega) n m a b x y ).mono fun e fr' H' ⟨e1, e2, e3⟩ => ?_)
 subst e1 e2 e3
 refine GoesB.seq (K1 := 2) (by omega) ((doC 2 (by omega) n m a b x y (by exact hn) (fun j hj => by simpa only [Nat.zero_add] using cw_row hw j hj) (fun j hj u hu => low_c hu) (by exact hm) (fun j hj => by simpa only [Nat.zero_add] using cw_row hw' j hj) (fun j hj u hu => low_c hu)).mono fun e fr' H' h => ?_)
 refine cond_elim h (fun t h => ?_) (fun t h => ?_)
 case refine_2 =>
  obtain ⟨rfl, rfl, rfl⟩ := h
  exact ⟨rfl, _, rfl, by rw [show doR n m a b x y = (0, 0) by unfold doR; rw [t]; rfl]; exact AV.ge.cpx' _ _ rfl rfl, _, rfl, AV.ge.refl _⟩
 obtain ⟨rfl, rfl, rfl⟩ := h
 have he := of_decide_eq_true t
 obtain ⟨rfl, h64⟩ := vmay_eq he
 refine GoesB.seq (K1 := 2) (by omega) ((doD 2 (by omega) n n a b x y).mono fun e fr' H' ⟨e1, e2, e3⟩ => ?_)
 subst e1 e2 e3
 refine GoesB.weakL (fl := [(0, slcV 0 n), (1, slcV 1 n), (7, .cpx true 0 0)]) (bl := [(0, cK false n a b), (1, cK false n x y)]) ⟨re rfl, re rfl, ⟨_, rfl, AV.ge.cpx' _ _ rfl rfl⟩, trivial⟩ ⟨hs rfl, hs rfl, trivial⟩ ?_
 refine GoesB.seq (K1 := 2) (by omega) (GoesB.seq (K1 := 2) (by omega) ((doE 2 (by omega) n 0 0 0 a b x y).mono fun e fr' H' ⟨e1, e2, e3⟩ => ?_))
 subst e1 e2 e3
 refine GoesB.weakL (fl := [(1, slcV 1 n), (7, .cpx true (dotR a b x y (0)).1 (dotR a b x y (0)).2), (16, slcV 0 n), (17, iT (n : Nat)), (18, iT ((0 : Nat) : Int))]) (bl := [(0, cK false n a b), (1, cK false n x y)]) ⟨re rfl, re rfl, re rfl, re rfl, ri rfl, trivial⟩ ⟨hs rfl, hs rfl, trivial⟩ ?_
 refine (GoesB.count n (fun i => [(1, slcV 1 n), (7, .cpx true (dotR a b x y (i)).1 (dotR a b x y (i)).2), (16, slcV 0 n), (17, iT (n : Nat)), (18, iT ((i : Nat) : Int))]) (fun i => [(0, cK false n a b), (1, cK false n x y)]) [(7, .cpx true (dotR a b x y n).1 (dotR a b x y n).2)] [] (fun _ => True) (fun _ _ => False) trivial (fun i hi _ => ?_)).mono fun e fr' H' h => ?_
 ·have hB := doL 2 (by omega) n i (dotR a b x y i).1 (dotR a b x y i).2 a b x y (fun t => by omega)
  simp only [Nat.zero_add] at hB
  refine hB.post fun e fr' H' h => ?_
  refine cond_elim h (fun t h => ?_) (fun t h => ?_)
  ·have hlt : i < n := by have := of_decide_eq_true t; omega
   obtain ⟨rfl, rfl, rfl⟩ := h
   exact ⟨[(1, slcV 1 n), (7, .cpx true (dotR a b x y (i + 1)).1 (dotR a b x y (i + 1)).2), (16, slcV 0 n), (17, iT (n : Nat)), (18, iT ((i + 1 : Nat) : Int))], [(0, cK false n a b), (1, cK false n x y)], ⟨re rfl, re rfl, re rfl, re rfl, ri rfl, trivial⟩, ⟨hs rfl, hs rfl, trivial⟩, .inl ⟨rfl, hlt, trivial, rfl, rfl⟩⟩
  ·have e : i = n := by have := of_decide_eq_false t; omega
   subst e
   obtain ⟨rfl, rfl, rfl⟩ := h
   exact ⟨[(7, .cpx true (dotR a b x y i).1 (dotR a b x y i).2)], [], ⟨re rfl, trivial⟩, trivial, .inr (.inl ⟨rfl, trivial, rfl, rfl⟩)⟩
 rcases h with ⟨rfl, _, rfl, rfl⟩ | ⟨_, h⟩
 case inr => exact h.elim
 refine (doZ 2 (by omega) n 0 (dotR a b x y n).1 (dotR a b x y n).2 a b x y).mono fun e fr' H' ⟨e1, e2, e3⟩ => ?_
 subst e1 e2 e3
 exact ⟨rfl, _, rfl, by rw [show doR n n a b x y = dotR a b x y n by unfold doR; rw [t]; rfl]; exact AV.ge.refl _, _, rfl, by rw [he]; exact AV.ge.int _ _ _ _⟩
noncomputable def dotS : List AV → M AV
 | [x, y] => c2 x y fun n a b m a' b' => M.ret (.tup [.cpx true (doR n m a b a' b').1 (doR n m a b a' b').2, iT (vmay n m)])
 | _ => M.no
theorem dotS_ok : ∀ args v g g', dotS args g = .done v g' → CallIs Try.prog 21 args v g g' := by
 intro args v g g' h
 unfold dotS at h
 split at h
 ·exact c2_plain Try.func21 (by kernel_rfl) (by kernel_rfl) (pl := []) (pr := []) (fun u hu => by simp at hu) (K' := 2) (res := fun n a b m a' b' => .tup [.cpx true (doR n m a b a' b').1 (doR n m a b a' b').2, iT (vmay n m)]) (fun n a b m a' b' => ⟨fun N => by simp [AV.low, lows], fun S => by simp [AV.inS, insS], fun σ => rfl⟩) (fun n a b m a' b' hn hm hw hw' => (do_goes n m a b a' b' hn hm hw hw').mono fun e fr' H' hp => by obtain ⟨e1, u, e2, e3, v, e4, e5⟩ := hp; exact ⟨.inl e1, _, _, res2 (t := 4) (t' := 5) (by kernel_rfl) e2 e4, trivial, AV.ge.tup2 e3 e5, news0⟩) _ _ _ _ _ h
 ·exact (no_done h).elim
theorem dotS_tch : ∀ args, Tch (dotS args) := by
 intro args
 unfold dotS
 split
 ·exact Tch.c2 _ _ fun _ _ _ _ _ _ => Tch.ret _
 ·exact Tch.no
noncomputable def bothAdS : List AV → M AV
 | [x, y, .fn (.func 51) [] []] => c2 x y fun n a b m a' b' => (M.dec (decide ((fun n m => vmay n m) n m = 0))).andThen fun d => bif d then (M.newB (.cells true 1 ((fun n m => n) n m) (.fn (fun j => [.cpx true (fadd (a j) (a' j)) (fadd (b j) (b' j))])))).andThen fun N => M.ret ((fun n m N => .tup [.slc true true ⟨false, N, 0, 0⟩ n, iT 0]) n m N) else M.ret (.tup [.nils, iT (vmay n m)])
 | _ => M.no
theorem bothAdS_ok : ∀ args v g g', bothAdS args g = .done v g' → CallIs Try.prog 49 args v g g' := by
 intro args v g g' h
 unfold bothAdS at h
 split at h
 ·exact c2_err Try.func49 (by kernel_rfl) (by kernel_rfl) (pl := []) (pr := [.fn (.func 51) [] []]) (fun u hu => by simp at hu; (try rcases hu with rfl | rfl) <;> (try subst hu) <;> rfl) (K' := 3) (nm := 2) (len := fun n m => n) (val := fun n m N => .tup [.slc true true ⟨false, N, 0, 0⟩ n, iT 0]) (rows := fun n a b m a' b' => fun j => [.cpx true (fadd (a j) (a' j)) (fadd (b j) (b' j))]) (fun n m => Named.tup n 0) (fun n a b m a' b' j hj u hu => low_c hu) (E := fun n m => vmay n m) (res := fun n a b m a' b' => .tup [.nils, iT (vmay n m)]) (fun n a b m a' b' => ⟨fun N => by simp [AV.low, lows], fun S => by simp [AV.inS, insS], fun σ => rfl⟩) (fun n a b m a' b' he hn hm hw hw' => ((ad_goes n m a b a' b' hn hm hw hw').mono fun e fr' H' hp => by
   obtain ⟨rfl, ⟨_, e2, e3⟩ | ⟨e1, _⟩⟩ := hp
   ·exact ⟨.inl rfl, _, _, res2 (t := 6) (t' := 7) (by kernel_rfl) e2 e3, trivial, AV.ge.refl _, news0⟩
   ·exact (he e1).elim)) (fun n a b m a' b' he hn hm hw hw' => (ad_goes n m a b a' b' hn hm hw hw').mono fun e fr' H' hp => by
   obtain ⟨rfl, ⟨e1, _⟩ | ⟨_, rfl, rfl⟩⟩ := hp
   ·exact (e1 he).elim
   ·exact ⟨.inl rfl, _, _, res2 (t := 6) (t' := 7) (by kernel_rfl) rfl rfl, trivial, AV.ge.tup2 (AV.ge.refl _) (AV.ge.int _ _ _ _), news1 rfl (SameC.refl _) rfl (fun j hj u hu => low_c hu)⟩) _ _ _ _ _ h
 ·exact (no_done h).elim
theorem bothAdS_tch : ∀ args, Tch (bothAdS args) := by
 intro args
 unfold bothAdS
 split
 ·exact Tch.c2 _ _ fun _ _ _ _ _ _ => (Tch.dec _).andThen fun d => Tch.cond ((Tch.newB _).andThen fun _ => Tch.ret _) (Tch.ret _)
 ·exact Tch.no
noncomputable def bothSuS : List AV → M AV
 | [x, y, .fn (.func 57) [] []] => c2 x y fun n a b m a' b' => (M.dec (decide ((fun n m => vmay n m) n m = 0))).andThen fun d => bif d then (M.newB (.cells true 1 ((fun n m => n) n m) (.fn (fun j => [.cpx true (fsub (a j) (a' j)) (fsub (b j) (b' j))])))).andThen fun N => M.ret ((fun n m N => .tup [.slc true true ⟨false, N, 0, 0⟩ n, iT 0]) n m N) else M.ret (.tup [.nils, iT (vmay n m)])
 | _ => M.no
theorem bothSuS_ok : ∀ args v g g', bothSuS args g = .done v g' → CallIs Try.prog 49 args v g g' := by
 intro args v g g' h
 unfold bothSuS at h
 split at h
 ·exact c2_err Try.func49 (by kernel_rfl) (by kernel_rfl) (pl := []) (pr := [.fn (.func 57) [] []]) (fun u hu => by simp at hu; (try rcases hu with rfl | rfl) <;> (try subst hu) <;> rfl) (K' := 3) (nm := 2) (len := fun n m => n) (val := fun n m N => .tup [.slc true true ⟨false, N, 0, 0⟩ n, iT 0]) (rows := fun n a b m a' b' => fun j => [.cpx true (fsub (a j) (a' j)) (fsub (b j) (b' j))]) (fun n m => Named.tup n 0) (fun n a b m a' b' j hj u hu => low_c hu) (E := fun n m => vmay n m) (res := fun n a b m a' b' => .tup [.nils, iT (vmay n m)]) (fun n a b m a' b' => ⟨fun N => by simp [AV.low, lows], fun S => by simp [AV.inS, insS], fun σ => rfl⟩) (fun n a b m a' b' he hn hm hw hw' => ((su_goes n m a b a' b' hn hm hw hw').mono fun e fr' H' hp => by
   obtain ⟨rfl, ⟨_, e2, e3⟩ | ⟨e1, _⟩⟩ := hp
   ·exact ⟨.inl rfl, _, _, res2 (t := 6) (t' := 7) (by kernel_rfl) e2 e3, trivial, AV.ge.refl _, news0⟩
   ·exact (he e1).elim)) (fun n a b m a' b' he hn hm hw hw' => (su_goes n m a b a' b' hn hm hw hw').mono fun e fr' H' hp => by
   obtain ⟨rfl, ⟨e1, _⟩ | ⟨_, rfl, rfl⟩⟩ := hp
   ·exact (e1 he).elim
   ·exact ⟨.inl rfl, _, _, res2 (t := 6) (t' := 7) (by kernel_rfl) rfl rfl, trivial, AV.ge.tup2 (AV.ge.refl _) (AV.ge.int _ _ _ _), news1 rfl (SameC.refl _) rfl (fun j hj u hu => low_c hu)⟩) _ _ _ _ _ h
 ·exact (no_done h).elim
theorem bothSuS_tch : ∀ args, Tch (bothSuS args) := by
 intro args
 unfold bothSuS
 split
 ·exact Tch.c2 _ _ fun _ _ _ _ _ _ => (Tch.dec _).andThen fun d => Tch.cond ((Tch.newB _).andThen fun _ => Tch.ret _) (Tch.ret _)
 ·exact Tch.no


theorem all_step {p : Nat → Prop} {i : Nat} (h : ∀ j, j < i → p j) (hi : p i) : ∀ j, j < i + 1 → p j := fun j hj => by
 by_cases c : j < i
 ·exact h j c
 ·rw [show j = i by omega]; exact hi
noncomputable def cfn (a b : Nat → Nat) (j : Nat) : Bool := bif feq (fsub (a j) (a j)) 0 then feq (fsub (b j) (b j)) 0 else false
noncomputable def ceq (a b x y : Nat → Nat) (j : Nat) : Bool := feq (a j) (x j) && feq (b j) (y j)
def eqlP (n m : Nat) (a b x y : Nat → Nat) : Prop := n = m ∧ ∀ j, j < n → ceq a b x y j = true
theorem scA_r0 (n s w : Nat) (a b : Nat → Nat) : PieceN 1 (Ex.normal) [(0, .cpx true s w), (1, .slc true false ⟨false, 0, 0, 0⟩ n)] [(0, cK false n a b)] (piececallV Try.f13 (nav [0] (bodyOf Try.f13)) (frameOf [.cpx true s w, slcV 0 n] 0 .e) (hpL [(0, cK false n a b)]) 1 []) := eqn (by kernel_rfl) trivial
theorem scA (B : Nat) (hB : B ≤ 1) (n s w : Nat) (a b : Nat → Nat) : GoesB Try.prog (nav [0] (bodyOf Try.f13)) Try.f13.ntmps B 1 1 (frameOf [.cpx true s w, slcV 0 n] 0 .e) (hpL [(0, cK false n a b)]) fun e fr' H' => (e = .normal ∧ fr' = frL [(0, .cpx true s w), (1, .slc true false ⟨false, 0, 0, 0⟩ n)] ∧ H' = hpL [(0, cK false n a b)]) := rcV (scA_r0 n s w a b) hB
theorem scC_r0 (n s w : Nat) (a b : Nat → Nat) (c0 : 0 ≤ (↑n : Int)) (c1 : (↑n : Int) ≤ (↑n : Int)) (c2 : 16 * (↑n : Int) ≤ 140737488355328) (c3 : (↑n : Int) ≤ 9223372036854775807) : PieceN 2 (Ex.normal) [(0, .cpx true s w), (1, .slc true false ⟨false, 0, 0, 0⟩ n), (5, sL 1 n)] [(0, cK false n a b), (1, .cells true 1 n (.fn fun x => [.cpx false 0 0]))] (piececallV Try.f13 (nav [1,0] (bodyOf Try.f13)) (frL [(0, .cpx true s w), (1, slcV 0 n)]) (hpL [(0, cK false n a b)]) 1 []) := eqn (by kernel_rfl) (ai trivial (ai c0 (ai c1 (ai c2 c3))))
theorem scC (B : Nat) (hB : B ≤ 1) (n s w : Nat) (a b : Nat → Nat) (x0 : (16 * (↑n : Int) ≤ 140737488355328)) (x1 : ((↑n : Int) ≤ 9223372036854775807)) : GoesB Try.prog (nav [1,0] (bodyOf Try.f13)) Try.f13.ntmps B 1 2 (frL [(0, .cpx true s w), (1, slcV 0 n)]) (hpL [(0, cK false n a b)]) fun e fr' H' => (e = .normal ∧ fr' = frL [(0, .cpx true s w), (1, .slc true false ⟨false, 0, 0, 0⟩ n), (5, sL 1 n)] ∧ H' = hpL [(0, cK false n a b), (1, .cells true 1 n (.fn fun x => [.cpx false 0 0]))]) := rcV (scC_r0 n s w a b (by omega) (by omega) x0 x1) hB
theorem scD_r0 (n s w : Nat) (a b : Nat → Nat) (q : Nat → List AV) : PieceN 2 (Ex.normal) [(0, .cpx true s w), (5, sL 1 n), (11, .slc true false ⟨false, 0, 0, 0⟩ n), (12, iT (↑n : Int)), (13, .int false .i64 0)] [(0, cK false n a b), (1, .cells true 1 n (Cont.fn q))] (piececallV Try.f13 (nav [1,1,0,0] (bodyOf Try.f13)) (frL [(0, .cpx true s w), (1, slcV 0 n), (5, sL 1 n)]) (hpL [(0, cK false n a b), (1, .cells true 1 (n) (.fn q))]) 2 []) := eqn (by kernel_rfl) trivial
theorem scD (B : Nat) (hB : B ≤ 2) (n i s w : Nat) (a b : Nat → Nat) (q : Nat → List AV) : GoesB Try.prog (nav [1,1,0,0] (bodyOf Try.f13)) Try.f13.ntmps B 2 2 (frL [(0, .cpx true s w), (1, slcV 0 n), (5, sL 1 n)]) (hpL [(0, cK false n a b), (1, .cells true 1 (n) (.fn q))]) fun e fr' H' => (e = .normal ∧ fr' = frL [(0, .cpx true s w), (5, sL 1 n), (11, .slc true false ⟨false, 0, 0, 0⟩ n), (12, iT (↑n : Int)), (13, .int false .i64 0)] ∧ H' = hpL [(0, cK false n a b), (1, .cells true 1 n (Cont.fn q))]) := rcV (scD_r0 n s w a b q) hB
theorem scL_r0 (n i s w : Nat) (a b : Nat → Nat) (q : Nat → List AV) (c0 : decide ((↑i : Int) < (↑n : Int)) = true) (c1 : 0 ≤ (↑i : Int)) (c2 : (↑i : Int) < (↑n : Int)) (c3 : 0 + i < n) (c4 : 0 + i < n) (c5 : 1 ≤ 1) (c6 : -9223372036854775808 ≤ (↑i : Int) + 1) (c7 : (↑i : Int) + 1 ≤ (9223372036854775807 : Int)) : PieceN 2 (Ex.normal) [(0, .cpx true s w), (5, sL 1 n), (11, .slc true false ⟨false, 0, 0, 0⟩ n), (12, iT (↑n : Int)), (13, iT ((↑i : Int) + 1))] [(0, cK false n a b), (1, .cells true 1 n (.fn fun j => bif Nat.beq j (0 + i) then [.cpx true (fsub (fmul s (a (0 + i))) (fmul w (b (0 + i)))) (fadd (fmul s (b (0 + i))) (fmul w (a (0 + i))))] else q j))] (piececallV Try.f13 (nav [1,1,0,1,0,0] (bodyOf Try.f13)) (frL [(0, .cpx true s w), (5, sL 1 n), (11, slcV 0 n), (12, iT n), (13, iT i)]) (hpL [(0, cK false n a b), (1, .cells true 1 (n) (.fn q))]) 2 [true]) := eqn (by kernel_rfl) (ai (ai (ai (ai (ai (ai (ai trivial c0) (ai c1 c2)) c3) (ai c1 c2)) c4) c5) (ai c6 c7))
theorem scL_r1 (n i s w : Nat) (a b : Nat → Nat) (q : Nat → List AV) (c0 : decide ((↑i : Int) < (↑n : Int)) = false) : PieceN 2 (Ex.exit 0) [(0, .cpx true s w), (5, sL 1 n), (11, .slc true false ⟨false, 0, 0, 0⟩ n), (12, iT (↑n : Int)), (13, iT (↑i : Int))] [(0, cK false n a b), (1, .cells true 1 n (Cont.fn q))] (piececallV Try.f13 (nav [1,1,0,1,0,0] (bodyOf Try.f13)) (frL [(0, .cpx true s w), (5, sL 1 n), (11, slcV 0 n), (12, iT n), (13, iT i)]) (hpL [(0, cK false n a b), (1, .cells true 1 (n) (.fn q))]) 2 [false]) := eqn (by kernel_rfl) (ai trivial c0)
theorem scL (B : Nat) (hB : B ≤ 2) (n i s w : Nat) (a b : Nat → Nat) (q : Nat → List AV) (x0 : ((decide ((↑i : Int) < (↑n : Int))) = true → ((↑i : Int) + 1 ≤ (9223372036854775807 : Int)))) : GoesB Try.prog (nav [1,1,0,1,0,0] (bodyOf Try.f13)) Try.f13.ntmps B 2 2 (frL [(0, .cpx true s w), (5, sL 1 n), (11, slcV 0 n), (12, iT n), (13, iT i)]) (hpL [(0, cK false n a b), (1, .cells true 1 (n) (.fn q))]) fun e fr' H' => (cond (decide ((↑i : Int) < (↑n : Int))) (e = .normal ∧ fr' = frL [(0, .cpx true s w), (5, sL 1 n), (11, .slc true false ⟨false, 0, 0, 0⟩ n), (12, iT (↑n : Int)), (13, iT ((↑i : Int) + 1))] ∧ H' = hpL [(0, cK false n a b), (1, .cells true 1 n (.fn fun j => bif Nat.beq j (0 + i) then [.cpx true (fsub (fmul s (a (0 + i))) (fmul w (b (0 + i)))) (fadd (fmul s (b (0 + i))) (fmul w (a (0 + i))))] else q j))]) (e = .exit 0 ∧ fr' = frL [(0, .cpx true s w), (5, sL 1 n), (11, .slc true false ⟨false, 0, 0, 0⟩ n), (12, iT (↑n : Int)), (13, iT (↑i : Int))] ∧ H' = hpL [(0, cK false n a b), (1, .cells true 1 n (Cont.fn q))])) := cD (fun q0 t0 => rcV (scL_r0 n i s w a b q t0 (by omega) (by omega) (by omega) (by omega) (by omega) (by omega) (x0 t0)) hB) (fun q0 t0 => rcV (scL_r1 n i s w a b q t0) hB)
theorem scZ_r0 (n : Nat) (q : Nat → List AV) : PieceN 2 (Ex.ret) [(4, sL 1 n)] [(1, .cells true 1 n (Cont.fn q))] (piececallV Try.f13 (nav [1,1,1] (bodyOf Try.f13)) (frL [(5, sL 1 n)]) (hpL [(1, .cells true 1 (n) (.fn q))]) 2 []) := eqn (by kernel_rfl) trivial
theorem scZ (B : Nat) (hB : B ≤ 2) (n i s w : Nat) (a b : Nat → Nat) (q : Nat → List AV) : GoesB Try.prog (nav [1,1,1] (bodyOf Try.f13)) Try.f13.ntmps B 2 2 (frL [(5, sL 1 n)]) (hpL [(1, .cells true 1 (n) (.fn q))]) fun e fr' H' => (e = .ret ∧ fr' = frL [(4, sL 1 n)] ∧ H' = hpL [(1, .cells true 1 n (Cont.fn q))]) := rcV (scZ_r0 n q) hB
theorem fiA_r0 (n : Nat) (a b : Nat → Nat) : PieceN 1 (Ex.normal) [(0, .slc true false ⟨false, 0, 0, 0⟩ n)] [(0, cK false n a b)] (piececallV Try.f42 (nav [0] (bodyOf Try.f42)) (frameOf [slcV 0 n] 0 .e) (hpL [(0, cK false n a b)]) 1 []) := eqn (by kernel_rfl) trivial
theorem fiA (B : Nat) (hB : B ≤ 1) (n : Nat) (a b : Nat → Nat) : GoesB Try.prog (nav [0] (bodyOf Try.f42)) Try.f42.ntmps B 1 1 (frameOf [slcV 0 n] 0 .e) (hpL [(0, cK false n a b)]) fun e fr' H' => (e = .normal ∧ fr' = frL [(0, .slc true false ⟨false, 0, 0, 0⟩ n)] ∧ H' = hpL [(0, cK false n a b)]) := rcV (fiA_r0 n a b) hB
theorem fiD_r0 (n : Nat) (a b : Nat → Nat) : PieceN 1 (Ex.normal) [(0, .slc true false ⟨false, 0, 0, 0⟩ n), (3, .int false .i64 0)] [(0, cK false n a b)] (piececallV Try.f42 (nav [1,0,0] (bodyOf Try.f42)) (frL [(0, slcV 0 n)]) (hpL [(0, cK false n a b)]) 1 []) := eqn (by kernel_rfl) trivial
theorem fiD (B : Nat) (hB : B ≤ 1) (n : Nat) (a b : Nat → Nat) : GoesB Try.prog (nav [1,0,0] (bodyOf Try.f42)) Try.f42.ntmps B 1 1 (frL [(0, slcV 0 n)]) (hpL [(0, cK false n a b)]) fun e fr' H' => (e = .normal ∧ fr' = frL [(0, .slc true false ⟨false, 0, 0, 0⟩ n), (3, .int false .i64 0)] ∧ H' = hpL [(0, cK false n a b)]) := rcV (fiD_r0 n a b) hB
theorem fiL_r0 (n i : Nat) (a b : Nat → Nat) (c0 : decide ((↑i : Int) < (↑n : Int)) = true) (c1 : 0 ≤ (↑i : Int)) (c2 : (↑i : Int) < (↑n : Int)) (c3 : 0 + i < n) (c4 : (!feq (fsub (a (0 + i)) (a (0 + i))) 0) = false) (c5 : (!feq (fsub (b (0 + i)) (b (0 + i))) 0) = false) (c6 : -9223372036854775808 ≤ (↑i : Int) + 1) (c7 : (↑i : Int) + 1 ≤ (9223372036854775807 : Int)) : PieceN 1 (Ex.normal) [(0, .slc true false ⟨false, 0, 0, 0⟩ n), (3, iT ((↑i : Int) + 1))] [(0, cK false n a b)] (piececallV Try.f42 (nav [1,0,1,0,0] (bodyOf Try.f42)) (frL [(0, slcV 0 n), (3, iT (i : Nat))]) (hpL [(0, cK false n a b)]) 1 [true, false, false]) := eqn (by kernel_rfl) (ai (ai (ai (ai (ai (ai (ai (ai trivial c0) (ai c1 c2)) c3) c4) (ai c1 c2)) c3) c5) (ai c6 c7))
theorem fiL_r1 (n i : Nat) (a b : Nat → Nat) (c0 : decide ((↑i : Int) < (↑n : Int)) = true) (c1 : 0 ≤ (↑i : Int)) (c2 : (↑i : Int) < (↑n : Int)) (c3 : 0 + i < n) (c4 : (!feq (fsub (a (0 + i)) (a (0 + i))) 0) = false) (c5 : (!feq (fsub (b (0 + i)) (b (0 + i))) 0) = true) : PieceN 1 (Ex.ret) [(0, .slc true false ⟨false, 0, 0, 0⟩ n), (2, .bool false), (3, iT (↑i : Int))] [(0, cK false n a b)] (piececallV Try.f42 (nav [1,0,1,0,0] (bodyOf Try.f42)) (frL [(0, slcV 0 n), (3, iT (i : Nat))]) (hpL [(0, cK false n a b)]) 1 [true, false, true]) := eqn (by kernel_rfl) (ai (ai (ai (ai (ai (ai (ai trivial c0) (ai c1 c2)) c3) c4) (ai c1 c2)) c3) c5)
theorem fiL_r2 (n i : Nat) (a b : Nat → Nat) (c0 : decide ((↑i : Int) < (↑n : Int)) = true) (c1 : 0 ≤ (↑i : Int)) (c2 : (↑i : Int) < (↑n : Int)) (c3 : 0 + i < n) (c4 : (!feq (fsub (a (0 + i)) (a (0 + i))) 0) = true) : PieceN 1 (Ex.ret) [(0, .slc true false ⟨false, 0, 0, 0⟩ n), (2, .bool false), (3, iT (↑i : Int))] [(0, cK false n a b)] (piececallV Try.f42 (nav [1,0,1,0,0] (bodyOf Try.f42)) (frL [(0, slcV 0 n), (3, iT (i : Nat))]) (hpL [(0, cK false n a b)]) 1 [true, true]) := eqn (by kernel_rfl) (ai (ai (ai (ai trivial c0) (ai c1 c2)) c3) c4)
theorem fiL_r3 (n i : Nat) (a b : Nat → Nat) (c0 : decide ((↑i : Int) < (↑n : Int)) = false) : PieceN 1 (Ex.exit 0) [(0, .slc true false ⟨false, 0, 0, 0⟩ n), (3, iT (↑i : Int))] [(0, cK false n a b)] (piececallV Try.f42 (nav [1,0,1,0,0] (bodyOf Try.f42)) (frL [(0, slcV 0 n), (3, iT (i : Nat))]) (hpL [(0, cK false n a b)]) 1 [false]) := eqn (by kernel_rfl) (ai trivial c0)
theorem fiL (B : Nat) (hB : B ≤ 1) (n i : Nat) (a b : Nat → Nat) (x0 : ((decide ((↑i : Int) < (↑n : Int))) = true → ((feq (fsub (a (0 + i)) (a (0 + i))) 0) = true → ((feq (fsub (b (0 + i)) (b (0 + i))) 0) = true → ((↑i : Int) + 1 ≤ (9223372036854775807 : Int)))))) : GoesB Try.prog (nav [1,0,1,0,0] (bodyOf Try.f42)) Try.f42.ntmps B 1 1 (frL [(0, slcV 0 n), (3, iT (i : Nat))]) (hpL [(0, cK false n a b)]) fun e fr' H' => (cond (decide ((↑i : Int) < (↑n : Int))) (cond (feq (fsub (a (0 + i)) (a (0 + i))) 0) (cond (feq (fsub (b (0 + i)) (b (0 + i))) 0) (e = .normal ∧ fr' = frL [(0, .slc true false ⟨false, 0, 0, 0⟩ n), (3, iT ((↑i : Int) + 1))] ∧ H' = hpL [(0, cK false n a b)]) (e = .ret ∧ fr' = frL [(0, .slc true false ⟨false, 0, 0, 0⟩ n), (2, .bool false), (3, iT (↑i : Int))] ∧ H' = hpL [(0, cK false n a b)])) (e = .ret ∧ fr' = frL [(0, .slc true false ⟨false, 0, 0, 0⟩ n), (2, .bool false), (3, iT (↑i : Int))] ∧ H' = hpL [(0, cK false n a b)])) (e = .exit 0 ∧ fr' = frL [(0, .slc true false ⟨false, 0, 0, 0⟩ n), (3, iT (↑i : Int))] ∧ H' = hpL [(0, cK false n a b)])) := cD (fun q0 t0 => cI (fun t1 => cI (fun t2 => rcV (fiL_r0 n i a b t0 (by omega) (by omega) (by omega) (by rw [t1]; rfl) (by rw [t2]; rfl) (by omega) (x0 t0 t1 t2)) hB) (fun t2 => rcV (fiL_r1 n i a b t0 (by omega) (by omega) (by omega) (by rw [t1]; rfl) (by rw [t2]; rfl)) hB)) (fun t1 => rcV (fiL_r2 n i a b t0 (by omega) (by omega) (by omega) (by rw [t1]; rfl)) hB)) (fun q0 t0 => rcV (fiL_r3 n i a b t0) hB)
theorem fiZ_r0  : PieceN 1 (Ex.ret) [(2, .bool true)] [] (piececallV Try.f42 (nav [1,1] (bodyOf Try.f42)) (frL []) (hpL []) 1 []) := eqn (by kernel_rfl) trivial
theorem fiZ (B : Nat) (hB : B ≤ 1)  : GoesB Try.prog (nav [1,1] (bodyOf Try.f42)) Try.f42.ntmps B 1 1 (frL []) (hpL []) fun e fr' H' => (e = .ret ∧ fr' = frL [(2, .bool true)] ∧ H' = hpL []) := rcV (fiZ_r0 ) hB
theorem eqA_r0 (n m : Nat) (a b x y : Nat → Nat) : PieceN 2 (Ex.normal) [(0, .slc true false ⟨false, 0, 0, 0⟩ n), (1, .slc true false ⟨false, 1, 0, 0⟩ m)] [(0, cK false n a b), (1, cK false m x y)] (piececallV Try.f43 (nav [0] (bodyOf Try.f43)) (frameOf [slcV 0 n, slcV 1 m] 0 .e) (hpL [(0, cK false n a b), (1, cK false m x y)]) 2 []) := eqn (by kernel_rfl) trivial
theorem eqA (B : Nat) (hB : B ≤ 2) (n m : Nat) (a b x y : Nat → Nat) : GoesB Try.prog (nav [0] (bodyOf Try.f43)) Try.f43.ntmps B 2 2 (frameOf [slcV 0 n, slcV 1 m] 0 .e) (hpL [(0, cK false n a b), (1, cK false m x y)]) fun e fr' H' => (e = .normal ∧ fr' = frL [(0, .slc true false ⟨false, 0, 0, 0⟩ n), (1, .slc true false ⟨false, 1, 0, 0⟩ m)] ∧ H' = hpL [(0, cK false n a b), (1, cK false m x y)]) := rcV (eqA_r0 n m a b x y) hB
theorem eqC_r0 (n m : Nat) (a b x y : Nat → Nat) (c0 : (!decide ((↑n : Int) = (↑m : Int))) = false) : PieceN 2 (Ex.normal) [(0, .slc true false ⟨false, 0, 0, 0⟩ n), (1, .slc true false ⟨false, 1, 0, 0⟩ m)] [(0, cK false n a b), (1, cK false m x y)] (piececallV Try.f43 (nav [1,0] (bodyOf Try.f43)) (frL [(0, slcV 0 n), (1, slcV 1 m)]) (hpL [(0, cK false n a b), (1, cK false m x y)]) 2 [false]) := eqn (by kernel_rfl) (ai trivial c0)
theorem eqC_r1 (n m : Nat) (a b x y : Nat → Nat) (c0 : (!decide ((↑n : Int) = (↑m : Int))) = true) : PieceN 2 (Ex.ret) [(0, .slc true false ⟨false, 0, 0, 0⟩ n), (1, .slc true false ⟨false, 1, 0, 0⟩ m), (4, .bool false)] [(0, cK false n a b), (1, cK false m x y)] (piececallV Try.f43 (nav [1,0] (bodyOf Try.f43)) (frL [(0, slcV 0 n), (1, slcV 1 m)]) (hpL [(0, cK false n a b), (1, cK false m x y)]) 2 [true]) := eqn (by kernel_rfl) (ai trivial c0)
theorem eqC (B : Nat) (hB : B ≤ 2) (n m : Nat) (a b x y : Nat → Nat) : GoesB Try.prog (nav [1,0] (bodyOf Try.f43)) Try.f43.ntmps B 2 2 (frL [(0, slcV 0 n), (1, slcV 1 m)]) (hpL [(0, cK false n a b), (1, cK false m x y)]) fun e fr' H' => (cond (decide ((↑n : Int) = (↑m : Int))) (e = .normal ∧ fr' = frL [(0, .slc true false ⟨false, 0, 0, 0⟩ n), (1, .slc true false ⟨false, 1, 0, 0⟩ m)] ∧ H' = hpL [(0, cK false n a b), (1, cK false m x y)]) (e = .ret ∧ fr' = frL [(0, .slc true false ⟨false, 0, 0, 0⟩ n), (1, .slc true false ⟨false, 1, 0, 0⟩ m), (4, .bool false)] ∧ H' = hpL [(0, cK false n a b), (1, cK false m x y)])) := cD (fun q0 t0 => rcV (eqC_r0 n m a b x y (by rw [t0]; rfl)) hB) (fun q0 t0 => rcV (eqC_r1 n m a b x y (by rw [t0]; rfl)) hB)
theorem eqD_r0 (n : Nat) (a b x y : Nat → Nat) : PieceN 2 (Ex.normal) [(0, .slc true false ⟨false, 0, 0, 0⟩ n), (1, .slc true false ⟨false, 1, 0, 0⟩ n), (5, .int false .i64 0)] [(0, cK false n a b), (1, cK false n x y)] (piececallV Try.f43 (nav [1,1,0,0] (bodyOf Try.f43)) (frL [(0, slcV 0 n), (1, slcV 1 n)]) (hpL [(0, cK false n a b), (1, cK false n x y)]) 2 []) := eqn (by kernel_rfl) trivial
theorem eqD (B : Nat) (hB : B ≤ 2) (n m : Nat) (a b x y : Nat → Nat) : GoesB Try.prog (nav [1,1,0,0] (bodyOf Try.f43)) Try.f43.ntmps B 2 2 (frL [(0, slcV 0 n), (1, slcV 1 n)]) (hpL [(0, cK false n a b), (1, cK false n x y)]) fun e fr' H' => (e = .normal ∧ fr' = frL [(0, .slc true false ⟨false, 0, 0, 0⟩ n), (1, .slc true false ⟨false, 1, 0, 0⟩ n), (5, .int false .i64 0)] ∧ H' = hpL [(0, cK false n a b), (1, cK false n x y)]) := rcV (eqD_r0 n a b x y) hB
theorem eqL_r0 (n i : Nat) (a b x y : Nat → Nat) (c0 : decide ((↑i : Int) < (↑n : Int)) = true) (c1 : 0 ≤ (↑i : Int)) (c2 : (↑i : Int) < (↑n : Int)) (c3 : 0 + i < n) (c4 : 0 + i < n) (c5 : (!(feq (a (0 + i)) (x (0 + i)) && feq (b (0 + i)) (y (0 + i)))) = false) (c6 : -9223372036854775808 ≤ (↑i : Int) + 1) (c7 : (↑i : Int) + 1 ≤ (9223372036854775807 : Int)) : PieceN 2 (Ex.normal) [(0, .slc true false ⟨false, 0, 0, 0⟩ n), (1, .slc true false ⟨false, 1, 0, 0⟩ n), (5, iT ((↑i : Int) + 1))] [(0, cK false n a b), (1, cK false n x y)] (piececallV Try.f43 (nav [1,1,0,1,0,0] (bodyOf Try.f43)) (frL [(0, slcV 0 n), (1, slcV 1 n), (5, iT (i : Nat))]) (hpL [(0, cK false n a b), (1, cK false n x y)]) 2 [true, false]) := eqn (by kernel_rfl) (ai (ai (ai (ai (ai (ai (ai trivial c0) (ai c1 c2)) c3) (ai c1 c2)) c4) c5) (ai c6 c7))
theorem eqL_r1 (n i : Nat) (a b x y : Nat → Nat) (c0 : decide ((↑i : Int) < (↑n : Int)) = true) (c1 : 0 ≤ (↑i : Int)) (c2 : (↑i : Int) < (↑n : Int)) (c3 : 0 + i < n) (c4 : 0 + i < n) (c5 : (!(feq (a (0 + i)) (x (0 + i)) && feq (b (0 + i)) (y (0 + i)))) = true) : PieceN 2 (Ex.ret) [(0, .slc true false ⟨false, 0, 0, 0⟩ n), (1, .slc true false ⟨false, 1, 0, 0⟩ n), (4, .bool false), (5, iT (↑i : Int))] [(0, cK false n a b), (1, cK false n x y)] (piececallV Try.f43 (nav [1,1,0,1,0,0] (bodyOf Try.f43)) (frL [(0, slcV 0 n), (1, slcV 1 n), (5, iT (i : Nat))]) (hpL [(0, cK false n a b), (1, cK false n x y)]) 2 [true, true]) := eqn (by kernel_rfl) (ai (ai (ai (ai (ai (ai trivial c0) (ai c1 c2)) c3) (ai c1 c2)) c4) c5)
theorem eqL_r2 (n i : Nat) (a b x y : Nat → Nat) (c0 : decide ((↑i : Int) < (↑n : Int)) = false) : PieceN 2 (Ex.exit 0) [(0, .slc true false ⟨false, 0, 0, 0⟩ n), (1, .slc true false ⟨false, 1, 0, 0⟩ n), (5, iT (↑i : Int))] [(0, cK false n a b), (1, cK false n x y)] (piececallV Try.f43 (nav [1,1,0,1,0,0] (bodyOf Try.f43)) (frL [(0, slcV 0 n), (1, slcV 1 n), (5, iT (i : Nat))]) (hpL [(0, cK false n a b), (1, cK false n x y)]) 2 [false]) := eqn (by kernel_rfl) (ai trivial c0)
theorem eqL (B : Nat) (hB : B ≤ 2) (n i : Nat) (a b x y : Nat → Nat) (x0 : ((decide ((↑i : Int) < (↑n : Int))) = true → ((feq (a (0 + i)) (x (0 + i)) && feq (b (0 + i)) (y (0 + i))) = true → ((↑i : Int) + 1 ≤ (9223372036854775807 : Int))))) : GoesB Try.prog (nav [1,1,0,1,0,0] (bodyOf Try.f43)) Try.f43.ntmps B 2 2 (frL [(0, slcV 0 n), (1, slcV 1 n), (5, iT (i : Nat))]) (hpL [(0, cK false n a b), (1, cK false n x y)]) fun e fr' H' => (cond (decide ((↑i : Int) < (↑n : Int))) (cond (feq (a (0 + i)) (x (0 + i)) && feq (b (0 + i)) (y (0 + i))) (e = .normal ∧ fr' = frL [(0, .slc true false ⟨false, 0, 0, 0⟩ n), (1, .slc true false ⟨false, 1, 0, 0⟩ n), (5, iT ((↑i : Int) + 1))] ∧ H' = hpL [(0, cK false n a b), (1, cK false n x y)]) (e = .ret ∧ fr' = frL [(0, .slc true false ⟨false, 0, 0, 0⟩ n), (1, .slc true false ⟨false, 1, 0, 0⟩ n), (4, .bool false), (5, iT (↑i : Int))] ∧ H' = hpL [(0, cK false n a b), (1, cK false n x y)])) (e = .exit 0 ∧ fr' = frL [(0, .slc true false ⟨false, 0, 0, 0⟩ n), (1, .slc true false ⟨false, 1, 0, 0⟩ n), (5, iT (↑i : Int))] ∧ H' = hpL [(0, cK false n a b), (1, cK false n x y)])) := cD (fun q0 t0 => cI (fun t1 => rcV (eqL_r0 n i a b x y t0 (by omega) (by omega) (by omega) (by omega) (by rw [t1]; rfl) (by omega) (x0 t0 t1)) hB) (fun t1 => rcV (eqL_r1 n i a b x y t0 (by omega) (by omega) (by omega) (by omega) (by rw [t1]; rfl)) hB)) (fun q0 t0 => rcV (eqL_r2 n i a b x y t0) hB)
theorem eqZ_r0  : PieceN 2 (Ex.ret) [(4, .bool true)] [] (piececallV Try.f43 (nav [1,1,1] (bodyOf Try.f43)) (frL []) (hpL []) 2 []) := eqn (by kernel_rfl) trivial
theorem eqZ (B : Nat) (hB : B ≤ 2)  : GoesB Try.prog (nav [1,1,1] (bodyOf Try.f43)) Try.f43.ntmps B 2 2 (frL []) (hpL []) fun e fr' H' => (e = .ret ∧ fr' = frL [(4, .bool true)] ∧ H' = hpL []) := rcV (eqZ_r0 ) hB
theorem sc_is : (bodyOf Try.f13) = .seq (nav [0] (bodyOf Try.f13)) (.seq (nav [1,0] (bodyOf Try.f13)) (.seq (.seq (nav [1,1,0,0] (bodyOf Try.f13)) (.block 0 (.loop (nav [1,1,0,1,0,0] (bodyOf Try.f13))))) (nav [1,1,1] (bodyOf Try.f13)))) := by kernel_rfl
theorem sc_goes (n s w : Nat) (a b : Nat → Nat) (hn : n * 16 ≤ 140737488355328) :
  GoesB Try.prog (bodyOf Try.f13) Try.f13.ntmps 1 1 2 (frameOf [.cpx true s w, slcV 0 n] 0 .e) (hpL [(0, cK false n a b)]) fun e fr' H' => e = .ret ∧ fr' = frL [(4, sL 1 n)] ∧ H' = hpL [(1, .cells true 1 (n) (.fn fun j => [.cpx true (fsub (fmul s (a j)) (fmul w (b j))) (fadd (fmul s (b j)) (fmul w (a j)))]))] := by
 rw [sc_is]
 refine GoesB.seq (K1 := 1) (by omega) ((scA 1 (by omega) n s w a b ).mono fun e fr' H' ⟨e1, e2, e3⟩ => ?_)
 subst e1 e2 e3
 refine GoesB.seq (K1 := 2) (by omega) ((scC 1 (by omega) n s w a b (by omega) (by omega)).mono fun e fr' H' ⟨e1, e2, e3⟩ => ?_)
 subst e1 e2 e3
 refine GoesB.seq (K1 := 2) (by omega) (GoesB.seq (K1 := 2) (by omega) ((scD 1 (by omega) n 0 s w a b (fun _ => [AV.cpx false 0 0])).mono fun e fr' H' ⟨e1, e2, e3⟩ => ?_))
 subst e1 e2 e3
 refine GoesB.weakL (fl := [(0, .cpx true s w), (5, sL 1 n), (11, slcV 0 n), (12, iT (n : Nat)), (13, iT ((0 : Nat) : Int))]) (bl := [(0, cK false n a b), (1, .cells true 1 (n) (.fn (fun j => bif decide (j < 0) then (fun j => [.cpx true (fsub (fmul s (a j)) (fmul w (b j))) (fadd (fmul s (b j)) (fmul w (a j)))]) j else [AV.cpx false 0 0])))]) ⟨re rfl, re rfl, re rfl, re rfl, ri rfl, trivial⟩ ⟨hs rfl, ⟨_, rfl, ⟨rfl, rfl, rfl, fun j hj => (row_none (fun j => [.cpx true (fsub (fmul s (a j)) (fmul w (b j))) (fadd (fmul s (b j)) (fmul w (a j)))]) _ j).symm⟩⟩, trivial⟩ ?_
 refine (GoesB.count n (fun i => [(0, .cpx true s w), (5, sL 1 n), (11, slcV 0 n), (12, iT (n : Nat)), (13, iT ((i : Nat) : Int))]) (fun i => [(0, cK false n a b), (1, .cells true 1 (n) (.fn (fun j => bif decide (j < i) then (fun j => [.cpx true (fsub (fmul s (a j)) (fmul w (b j))) (fadd (fmul s (b j)) (fmul w (a j)))]) j else [AV.cpx false 0 0])))]) [(5, sL 1 n)] [(1, .cells true 1 (n) (.fn fun j => [.cpx true (fsub (fmul s (a j)) (fmul w (b j))) (fadd (fmul s (b j)) (fmul w (a j)))]))] (fun _ => True) (fun _ _ => False) trivial (fun i hi _ => ?_)).mono fun e fr' H' h => ?_
 ·have hB := scL 1 (by omega) n i s w a b (fun j => bif decide (j < i) then (fun j => [.cpx true (fsub (fmul s (a j)) (fmul w (b j))) (fadd (fmul s (b j)) (fmul w (a j)))]) j else [AV.cpx false 0 0]) (fun t => by omega)
  simp only [Nat.zero_add] at hB
  refine hB.post fun e fr' H' h => ?_
  refine cond_elim h (fun t h => ?_) (fun t h => ?_)
  ·have hlt : i < n := by have := of_decide_eq_true t; omega
   obtain ⟨rfl, rfl, rfl⟩ := h
   exact ⟨[(0, .cpx true s w), (5, sL 1 n), (11, slcV 0 n), (12, iT (n : Nat)), (13, iT ((i + 1 : Nat) : Int))], [(0, cK false n a b), (1, .cells true 1 (n) (.fn (fun j => bif decide (j < i + 1) then (fun j => [.cpx true (fsub (fmul s (a j)) (fmul w (b j))) (fadd (fmul s (b j)) (fmul w (a j)))]) j else [AV.cpx false 0 0])))], ⟨re rfl, re rfl, re rfl, re rfl, ri rfl, trivial⟩, ⟨hs rfl, ⟨_, rfl, ⟨rfl, rfl, rfl, fun j hj => by simpa only [Cont.row] using row_put (fun j => [.cpx true (fsub (fmul s (a j)) (fmul w (b j))) (fadd (fmul s (b j)) (fmul w (a j)))]) [AV.cpx false 0 0] _ i j⟩⟩, trivial⟩, .inl ⟨rfl, hlt, trivial, rfl, rfl⟩⟩
  ·have e : i = n := by have := of_decide_eq_false t; omega
   subst e
   obtain ⟨rfl, rfl, rfl⟩ := h
   exact ⟨[(5, sL 1 i)], [(1, .cells true 1 (i) (.fn fun j => [.cpx true (fsub (fmul s (a j)) (fmul w (b j))) (fadd (fmul s (b j)) (fmul w (a j)))]))], ⟨re rfl, trivial⟩, ⟨⟨_, rfl, ⟨rfl, rfl, rfl, fun j hj => row_all (fun j => [.cpx true (fsub (fmul s (a j)) (fmul w (b j))) (fadd (fmul s (b j)) (fmul w (a j)))]) _ _ j hj⟩⟩, trivial⟩, .inr (.inl ⟨rfl, trivial, rfl, rfl⟩)⟩
 rcases h with ⟨rfl, _, rfl, rfl⟩ | ⟨_, h⟩
 case inr => exact h.elim
 exact scZ 1 (by omega) n 0 s w a b (fun j => [.cpx true (fsub (fmul s (a j)) (fmul w (b j))) (fadd (fmul s (b j)) (fmul w (a j)))])
theorem fi_is : (bodyOf Try.f42) = .seq (nav [0] (bodyOf Try.f42)) (.seq (.seq (nav [1,0,0] (bodyOf Try.f42)) (.block 0 (.loop (nav [1,0,1,0,0] (bodyOf Try.f42))))) (nav [1,1] (bodyOf Try.f42))) := by kernel_rfl
theorem fi_goes (n : Nat) (a b : Nat → Nat) (hn : n * 16 ≤ 140737488355328) :
  GoesB Try.prog (bodyOf Try.f42) Try.f42.ntmps 1 1 1 (frameOf [slcV 0 n] 0 .e) (hpL [(0, cK false n a b)]) fun e fr' H' => e = .ret ∧ fr'.get 2 = some (.bool (cd (∀ j, j < n → cfn a b j = true))) := by
 rw [fi_is]
 refine GoesB.seq (K1 := 1) (by omega) ((fiA 1 (by omega) n a b ).mono fun e fr' H' ⟨e1, e2, e3⟩ => ?_)
 subst e1 e2 e3
 refine GoesB.seq (K1 := 1) (by omega) (GoesB.seq (K1 := 1) (by omega) ((fiD 1 (by omega) n a b).mono fun e fr' H' ⟨e1, e2, e3⟩ => ?_))
 subst e1 e2 e3
 refine GoesB.weakL (fl := [(0, slcV 0 n), (3, iT ((0 : Nat) : Int))]) (bl := [(0, cK false n a b)]) ⟨re rfl, ri rfl, trivial⟩ ⟨(Sx.hs rfl), trivial⟩ ?_
 refine (GoesB.count n (fun i => [(0, slcV 0 n), (3, iT ((i : Nat) : Int))]) (fun i => [(0, cK false n a b)]) [] [] (fun i => ∀ j, j < i → cfn a b j = true) (fun fr H => ¬ (∀ j, j < n → cfn a b j = true) ∧ fr.get 2 = some (.bool false)) (fun j hj => by omega) (fun i hi hs => ?_)).mono fun e fr' H' h => ?_
 ·have hB := fiL 1 (by omega) n i a b (fun _ _ _ => by omega)
  simp only [Nat.zero_add, Int.toNat_natCast] at hB
  refine hB.post fun e fr' H' h => ?_
  refine cond_elim h (fun t h => ?_) (fun t h => ?_)
  ·have hlt : i < n := by have := of_decide_eq_true t; omega
   refine cond_elim h (fun t0 h => ?_) (fun t0 h => ?_)
   ·
    refine cond_elim h (fun t1 h => ?_) (fun t1 h => ?_)
    ·
     obtain ⟨rfl, rfl, rfl⟩ := h
     exact ⟨[(0, slcV 0 n), (3, iT ((i + 1 : Nat) : Int))], [(0, cK false n a b)], ⟨re rfl, ri rfl, trivial⟩, ⟨(Sx.hs rfl), trivial⟩, .inl ⟨rfl, hlt, all_step hs (by show cfn a b i = true; unfold cfn; rw [t0, t1]; try rfl), rfl, rfl⟩⟩
    ·
     obtain ⟨rfl, rfl, rfl⟩ := h
     exact ⟨[(2, .bool false)], [], ⟨re rfl, trivial⟩, trivial, .inr (.inr ⟨rfl, fun hh => by have h1 := hh i hlt; unfold cfn at h1; rw [t0, t1] at h1; simp at h1, rfl⟩)⟩
   ·
    obtain ⟨rfl, rfl, rfl⟩ := h
    exact ⟨[(2, .bool false)], [], ⟨re rfl, trivial⟩, trivial, .inr (.inr ⟨rfl, fun hh => by have h1 := hh i hlt; unfold cfn at h1; rw [t0] at h1; simp at h1, rfl⟩)⟩
  ·have e : i = n := by have := of_decide_eq_false t; omega
   subst e
   obtain ⟨rfl, rfl, rfl⟩ := h
   exact ⟨[], [], trivial, trivial, .inr (.inl ⟨rfl, hs, rfl, rfl⟩)⟩
 rcases h with ⟨rfl, hs, rfl, rfl⟩ | ⟨rfl, h1, h2⟩
 ·refine (fiZ 1 (by omega)).mono fun e fr' H' ⟨e1, e2, e3⟩ => ?_
  subst e1 e2 e3
  exact ⟨rfl, by rw [cd_true hs]; rfl⟩
 ·exact ⟨rfl, by rw [cd_false h1]; exact h2⟩
theorem eq_is : (bodyOf Try.f43) = .seq (nav [0] (bodyOf Try.f43)) (.seq (nav [1,0] (bodyOf Try.f43)) (.seq (.seq (nav [1,1,0,0] (bodyOf Try.f43)) (.block 0 (.loop (nav [1,1,0,1,0,0] (bodyOf Try.f43))))) (nav [1,1,1] (bodyOf Try.f43)))) := by kernel_rfl
theorem eq_goes (n m : Nat) (a b x y : Nat → Nat) (hn : n * 16 ≤ 140737488355328) :
  GoesB Try.prog (bodyOf Try.f43) Try.f43.ntmps 2 2 2 (frameOf [slcV 0 n, slcV 1 m] 0 .e) (hpL [(0, cK false n a b), (1, cK false m x y)]) fun e fr' H' => e = .ret ∧ fr'.get 4 = some (.bool (cd (n = m ∧ ∀ j, j < n → ceq a b x y j = true))) := by
 rw [eq_is]
 refine GoesB.seq (K1 := 2) (by omega) ((eqA 2 (by omega) n m a b x y ).mono fun e fr' H' ⟨e1, e2, e3⟩ => ?_)
 subst e1 e2 e3
 refine GoesB.seq (K1 := 2) (by omega) ((eqC 2 (by omega) n m a b x y).mono fun e fr' H' h => ?_)
 refine cond_elim h (fun t h => ?_) (fun t h => ?_)
 case refine_2 =>
  obtain ⟨rfl, rfl, rfl⟩ := h
  exact ⟨rfl, by rw [cd_false (fun hh => by have h1 := hh.1; subst h1; simp at t)]; rfl⟩
 obtain ⟨rfl, rfl, rfl⟩ := h
 obtain rfl : n = m := by have := of_decide_eq_true t; omega
 refine GoesB.seq (K1 := 2) (by omega) (GoesB.seq (K1 := 2) (by omega) ((eqD 2 (by omega) n n a b x y).mono fun e fr' H' ⟨e1, e2, e3⟩ => ?_))
 subst e1 e2 e3
 refine GoesB.weakL (fl := [(0, slcV 0 n), (1, slcV 1 n), (5, iT ((0 : Nat) : Int))]) (bl := [(0, cK false n a b), (1, cK false n x y)]) ⟨re rfl, re rfl, ri rfl, trivial⟩ ⟨(Sx.hs rfl), (Sx.hs rfl), trivial⟩ ?_
 refine (GoesB.count n (fun i => [(0, slcV 0 n), (1, slcV 1 n), (5, iT ((i : Nat) : Int))]) (fun i => [(0, cK false n a b), (1, cK false n x y)]) [] [] (fun i => ∀ j, j < i → ceq a b x y j = true) (fun fr H => ¬ (∀ j, j < n → ceq a b x y j = true) ∧ fr.get 4 = some (.bool false)) (fun j hj => by omega) (fun i hi hs => ?_)).mono fun e fr' H' h => ?_
 ·have hB := eqL 2 (by omega) n i a b x y (fun _ _ => by omega)
  simp only [Nat.zero_add, Int.toNat_natCast] at hB
  refine hB.post fun e fr' H' h => ?_
  refine cond_elim h (fun t h => ?_) (fun t h => ?_)
  ·have hlt : i < n := by have := of_decide_eq_true t; omega
   refine cond_elim h (fun t0 h => ?_) (fun t0 h => ?_)
   ·
    obtain ⟨rfl, rfl, rfl⟩ := h
    exact ⟨[(0, slcV 0 n), (1, slcV 1 n), (5, iT ((i + 1 : Nat) : Int))], [(0, cK false n a b), (1, cK false n x y)], ⟨re rfl, re rfl, ri rfl, trivial⟩, ⟨(Sx.hs rfl), (Sx.hs rfl), trivial⟩, .inl ⟨rfl, hlt, all_step hs (by show ceq a b x y i = true; unfold ceq; rw [t0]; try rfl), rfl, rfl⟩⟩
   ·
    obtain ⟨rfl, rfl, rfl⟩ := h
    exact ⟨[(4, .bool false)], [], ⟨re rfl, trivial⟩, trivial, .inr (.inr ⟨rfl, fun hh => by have h1 := hh i hlt; unfold ceq at h1; rw [t0] at h1; simp at h1, rfl⟩)⟩
  ·have e : i = n := by have := of_decide_eq_false t; omega
   subst e
   obtain ⟨rfl, rfl, rfl⟩ := h
   exact ⟨[], [], trivial, trivial, .inr (.inl ⟨rfl, hs, rfl, rfl⟩)⟩
 rcases h with ⟨rfl, hs, rfl, rfl⟩ | ⟨rfl, h1, h2⟩
 ·refine (eqZ 2 (by omega)).mono fun e fr' H' ⟨e1, e2, e3⟩ => ?_
  subst e1 e2 e3
  exact ⟨rfl, by rw [cd_true ⟨rfl, hs⟩]; rfl⟩
 ·exact ⟨rfl, by rw [cd_false (fun hh => h1 hh.2)]; exact h2⟩
noncomputable def bothS : List AV → M AV
 | [x, y, .fn (.func k) p q] => bif Nat.beq k 51 then bothAdS [x, y, .fn (.func k) p q] else bothSuS [x, y, .fn (.func k) p q]
 | _ => M.no
theorem bothS_ok : ∀ args v g g', bothS args g = .done v g' → CallIs Try.prog 49 args v g g' := by
 intro args v g g' h
 unfold bothS at h
 split at h
 ·rename_i x y k p q
  cases t : Nat.beq k 51 with
  | true => rw [t, cond_true] at h; exact bothAdS_ok _ _ _ _ h
  | false => rw [t, cond_false] at h; exact bothSuS_ok _ _ _ _ h
 ·exact (no_done h).elim
theorem bothS_tch : ∀ args, Tch (bothS args) := by
 intro args
 unfold bothS
 split
 ·exact Tch.cond (bothAdS_tch _) (bothSuS_tch _)
 ·exact Tch.no
theorem nuA_r0 (len : Nat) (re im : Nat → Int) : PieceN 1 (Ex.normal) [(0, .slc true false ⟨false, 0, 0, 0⟩ len)] [(0, .cells false 2 len (.fn fun j => [.int true .u64 (re j), .int true .u64 (im j)]))] (piececallV Try.f10 (nav [0] (bodyOf Try.f10)) (frameOf [slcV 0 len] 0 .e) (hpL [(0, .cells false 2 len (.fn fun j => [.int true .u64 (re j), .int true .u64 (im j)]))]) 1 []) := eqn (by kernel_rfl) trivial
theorem nuA (B : Nat) (hB : B ≤ 1) (len : Nat) (re im : Nat → Int) : GoesB Try.prog (nav [0] (bodyOf Try.f10)) Try.f10.ntmps B 1 1 (frameOf [slcV 0 len] 0 .e) (hpL [(0, .cells false 2 len (.fn fun j => [.int true .u64 (re j), .int true .u64 (im j)]))]) fun e fr' H' => (e = .normal ∧ fr' = frL [(0, .slc true false ⟨false, 0, 0, 0⟩ len)] ∧ H' = hpL [(0, .cells false 2 len (.fn fun j => [.int true .u64 (re j), .int true .u64 (im j)]))]) := rcV (nuA_r0 len re im) hB
theorem nuC_r0 (len : Nat) (re im : Nat → Int) : PieceN 1 (Ex.normal) [(0, .slc true false ⟨false, 0, 0, 0⟩ len), (3, .nils)] [(0, .cells false 2 len (.fn fun j => [.int true .u64 (re j), .int true .u64 (im j)]))] (piececallV Try.f10 (nav [1,0] (bodyOf Try.f10)) (frL [(0, slcV 0 len)]) (hpL [(0, .cells false 2 len (.fn fun j => [.int true .u64 (re j), .int true .u64 (im j)]))]) 1 []) := eqn (by kernel_rfl) trivial
theorem nuC (B : Nat) (hB : B ≤ 1) (len : Nat) (re im : Nat → Int) : GoesB Try.prog (nav [1,0] (bodyOf Try.f10)) Try.f10.ntmps B 1 1 (frL [(0, slcV 0 len)]) (hpL [(0, .cells false 2 len (.fn fun j => [.int true .u64 (re j), .int true .u64 (im j)]))]) fun e fr' H' => (e = .normal ∧ fr' = frL [(0, .slc true false ⟨false, 0, 0, 0⟩ len), (3, .nils)] ∧ H' = hpL [(0, .cells false 2 len (.fn fun j => [.int true .u64 (re j), .int true .u64 (im j)]))]) := rcV (nuC_r0 len re im) hB
theorem nuD_r0 (len : Nat) (re im : Nat → Int) : PieceN 1 (Ex.normal) [(0, .slc true false ⟨false, 0, 0, 0⟩ len), (3, .nils), (4, .int false .i64 0)] [(0, .cells false 2 len (.fn fun j => [.int true .u64 (re j), .int true .u64 (im j)]))] (piececallV Try.f10 (nav [1,1,0,0] (bodyOf Try.f10)) (frL [(0, slcV 0 len), (3, .nils)]) (hpL [(0, .cells false 2 len (.fn fun j => [.int true .u64 (re j), .int true .u64 (im j)]))]) 1 []) := eqn (by kernel_rfl) trivial
theorem nuD (B : Nat) (hB : B ≤ 1) (len : Nat) (re im : Nat → Int) : GoesB Try.prog (nav [1,1,0,0] (bodyOf Try.f10)) Try.f10.ntmps B 1 1 (frL [(0, slcV 0 len), (3, .nils)]) (hpL [(0, .cells false 2 len (.fn fun j => [.int true .u64 (re j), .int true .u64 (im j)]))]) fun e fr' H' => (e = .normal ∧ fr' = frL [(0, .slc true false ⟨false, 0, 0, 0⟩ len), (3, .nils), (4, .int false .i64 0)] ∧ H' = hpL [(0, .cells false 2 len (.fn fun j => [.int true .u64 (re j), .int true .u64 (im j)]))]) := rcV (nuD_r0 len re im) hB
theorem nuB_r0 (len i : Nat) (re im : Nat → Int) (c0 : decide ((↑i : Int) < (↑len : Int)) = true) (c1 : 0 ≤ (↑i : Int)) (c2 : (↑i : Int) < (↑len : Int)) (c3 : 0 + i < len) (c4 : 2 ≤ 2) (c5 : (0 : Int) ≤ re (0 + i)) (c6 : re (0 + i) < (18446744073709551616 : Int)) (c7 : (0 : Int) ≤ im (0 + i)) (c8 : im (0 + i) < (18446744073709551616 : Int)) (c9 : i ≤ i) (c10 : (i + 1) * 16 ≤ 140737488355328) (c11 : i + 1 ≤ 9223372036854775807) (c12 : -9223372036854775808 ≤ (↑i : Int) + 1) (c13 : (↑i : Int) + 1 ≤ (9223372036854775807 : Int)) : PieceN 5 (Ex.normal) [(0, .slc true false ⟨false, 0, 0, 0⟩ len), (3, sL 4 (i + 1)), (4, iT ((↑i : Int) + 1))] [(0, .cells false 2 len (.fn fun j => [.int true .u64 (re j), .int true .u64 (im j)])), (4, .cells true 1 (i + 1) (.fn fun j => bif decide (j < i) then [.cpx true (cn (Int.toNat (re j))) (cn (Int.toNat (im j)))] else [.cpx true (cn (Int.toNat (re (0 + i)))) (cn (Int.toNat (im (0 + i))))]))] (piececallV Try.f10 (nav [1,1,0,1,0,0] (bodyOf Try.f10)) (frL [(0, slcV 0 len), (3, sL 1 i), (4, iT i)]) (hpL [(0, .cells false 2 len (.fn fun j => [.int true .u64 (re j), .int true .u64 (im j)])), (1, .cells true 1 i (.fn fun j => [.cpx true (cn (re j).toNat) (cn (im j).toNat)]))]) 2 [true]) := eqn (by kernel_rfl) (ai (ai (ai (ai (ai (ai (ai (ai trivial c0) (ai c1 c2)) c3) c4) (ai c5 c6)) (ai c7 c8)) (ai c9 (ai c10 c11))) (ai c12 c13))
theorem nuB_r1 (len i : Nat) (re im : Nat → Int) (c0 : decide ((↑i : Int) < (↑len : Int)) = false) : PieceN 5 (Ex.exit 0) [(0, .slc true false ⟨false, 0, 0, 0⟩ len), (3, sL 1 i), (4, iT (↑i : Int))] [(0, .cells false 2 len (.fn fun j => [.int true .u64 (re j), .int true .u64 (im j)])), (1, .cells true 1 i (.fn fun j => [.cpx true (cn (Int.toNat (re j))) (cn (Int.toNat (im j)))]))] (piececallV Try.f10 (nav [1,1,0,1,0,0] (bodyOf Try.f10)) (frL [(0, slcV 0 len), (3, sL 1 i), (4, iT i)]) (hpL [(0, .cells false 2 len (.fn fun j => [.int true .u64 (re j), .int true .u64 (im j)])), (1, .cells true 1 i (.fn fun j => [.cpx true (cn (re j).toNat) (cn (im j).toNat)]))]) 2 [false]) := eqn (by kernel_rfl) (ai trivial c0)
theorem nuB (B : Nat) (hB : B ≤ 2) (len i : Nat) (re im : Nat → Int) (x0 : ((decide ((↑i : Int) < (↑len : Int))) = true → ((0 : Int) ≤ re (0 + i)))) (x1 : ((decide ((↑i : Int) < (↑len : Int))) = true → (re (0 + i) < (18446744073709551616 : Int)))) (x2 : ((decide ((↑i : Int) < (↑len : Int))) = true → ((0 : Int) ≤ im (0 + i)))) (x3 : ((decide ((↑i : Int) < (↑len : Int))) = true → (im (0 + i) < (18446744073709551616 : Int)))) (x4 : ((decide ((↑i : Int) < (↑len : Int))) = true → ((i + 1) * 16 ≤ 140737488355328))) (x5 : ((decide ((↑i : Int) < (↑len : Int))) = true → (i + 1 ≤ 9223372036854775807))) (x6 : ((decide ((↑i : Int) < (↑len : Int))) = true → ((↑i : Int) + 1 ≤ (9223372036854775807 : Int)))) : GoesB Try.prog (nav [1,1,0,1,0,0] (bodyOf Try.f10)) Try.f10.ntmps B 2 5 (frL [(0, slcV 0 len), (3, sL 1 i), (4, iT i)]) (hpL [(0, .cells false 2 len (.fn fun j => [.int true .u64 (re j), .int true .u64 (im j)])), (1, .cells true 1 i (.fn fun j => [.cpx true (cn (re j).toNat) (cn (im j).toNat)]))]) fun e fr' H' => (cond (decide ((↑i : Int) < (↑len : Int))) (e = .normal ∧ fr' = frL [(0, .slc true false ⟨false, 0, 0, 0⟩ len), (3, sL 4 (i + 1)), (4, iT ((↑i : Int) + 1))] ∧ H' = hpL [(0, .cells false 2 len (.fn fun j => [.int true .u64 (re j), .int true .u64 (im j)])), (4, .cells true 1 (i + 1) (.fn fun j => bif decide (j < i) then [.cpx true (cn (Int.toNat (re j))) (cn (Int.toNat (im j)))] else [.cpx true (cn (Int.toNat (re (0 + i)))) (cn (Int.toNat (im (0 + i))))]))]) (e = .exit 0 ∧ fr' = frL [(0, .slc true false ⟨false, 0, 0, 0⟩ len), (3, sL 1 i), (4, iT (↑i : Int))] ∧ H' = hpL [(0, .cells false 2 len (.fn fun j => [.int true .u64 (re j), .int true .u64 (im j)])), (1, .cells true 1 i (.fn fun j => [.cpx true (cn (Int.toNat (re j))) (cn (Int.toNat (im j)))]))])) := cD (fun q0 t0 => rcV (nuB_r0 len i re im t0 (by omega) (by omega) (by omega) (by omega) (x0 t0) (x1 t0) (x2 t0) (x3 t0) (by omega) (x4 t0) (x5 t0) (by omega) (x6 t0)) hB) (fun q0 t0 => rcV (nuB_r1 len i re im t0) hB)
theorem nuZ_r0 (len : Nat) (q : Nat → List AV) : PieceN 2 (Ex.ret) [(2, sL 1 len)] [(1, .cells true 1 len (Cont.fn q))] (piececallV Try.f10 (nav [1,1,1] (bodyOf Try.f10)) (frL [(3, sL 1 len)]) (hpL [(1, .cells true 1 len (.fn q))]) 2 []) := eqn (by kernel_rfl) trivial
theorem nuZ (B : Nat) (hB : B ≤ 2) (len : Nat) (q : Nat → List AV) : GoesB Try.prog (nav [1,1,1] (bodyOf Try.f10)) Try.f10.ntmps B 2 2 (frL [(3, sL 1 len)]) (hpL [(1, .cells true 1 len (.fn q))]) fun e fr' H' => (e = .ret ∧ fr' = frL [(2, sL 1 len)] ∧ H' = hpL [(1, .cells true 1 len (Cont.fn q))]) := rcV (nuZ_r0 len q) hB
def nuI (len : Nat) (re im : Nat → Int) (k : Nat) (fr : Fr) (H : T ABk) : Prop :=
 ∃ i : Nat, k = len - i ∧ i ≤ len ∧ fr = frL [(0, slcV 0 len), (3, sL 1 i), (4, iT i)] ∧ H = hpL [(0, .cells false 2 len (.fn fun j => [.int true .u64 (re j), .int true .u64 (im j)])), (1, .cells true 1 i (.fn fun j => [.cpx true (cn (re j).toNat) (cn (im j).toNat)]))]
def nuP (len : Nat) (re im : Nat → Int) : Po := fun e fr H => e = .exit 0 ∧ fr = frL [(3, sL 1 len)] ∧ H = hpL [(1, .cells true 1 len (.fn fun j => [.cpx true (cn (re j).toNat) (cn (im j).toNat)]))]
theorem nu_body (len : Nat) (re im : Nat → Int) (hr : ∀ j, j < len → 0 ≤ re j ∧ re j < 18446744073709551616 ∧ 0 ≤ im j ∧ im j < 18446744073709551616) (hl : len * 16 ≤ 140737488355328) (k : Nat) (fr : Fr) (H : T ABk) (hI : nuI len re im k fr H) :
  GoesB Try.prog (nav [1,1,0,1,0,0] (bodyOf Try.f10)) Try.f10.ntmps 1 2 2 fr H fun e fr' H' => match e with
   | .normal => ∃ k', k' < k ∧ nuI len re im k' fr' H'
   | e => nuP len re im e fr' H' := by
 obtain ⟨i, rfl, hi, rfl, rfl⟩ := hI
 have hx : decide ((i : Int) < (len : Int)) = true → i < len := fun t => by have := of_decide_eq_true t; omega
 refine (nuB 1 (by omega) len i re im (fun t => by simpa using (hr i (hx t)).1) (fun t => by simpa using (hr i (hx t)).2.1) (fun t => by simpa using (hr i (hx t)).2.2.1) (fun t => by simpa using (hr i (hx t)).2.2.2) (fun t => by have := hx t; omega) (fun t => by have := hx t; omega) (fun t => by have := hx t; omega)).renL fun e fr' H' h => ?_
 refine cond_elim h (fun t h => ?_) (fun t h => ?_)
 ·have hlt := hx t
  obtain ⟨rfl, rfl, rfl⟩ := h
  refine ⟨fun g => if g = 1 then 4 else g, [(0, slcV 0 len), (3, sL 1 (i + 1)), (4, iT ((i + 1 : Nat) : Int))], [(0, .cells false 2 len (.fn fun j => [.int true .u64 (re j), .int true .u64 (im j)])), (1, .cells true 1 (i + 1) (.fn fun j => [.cpx true (cn (re j).toNat) (cn (im j).toNat)]))], fun g hg => if_neg (by omega),
   ⟨⟨_, rfl, AV.ge.refl _, rfl⟩, ⟨_, rfl, AV.ge.refl _, rfl⟩, ⟨_, rfl, AV.ge.int' _ _ _ (by simp), rfl⟩, trivial⟩,
   ⟨⟨_, rfl, SameC.refl _, bare_int2 _ _ _, Nat.zero_lt_succ _⟩, ⟨_, rfl, ⟨rfl, rfl, rfl, fun j hj => ?_⟩, bare_cpx _ _ _ _, Nat.lt_succ_self _⟩, trivial⟩, fun a b ha hb hab => by dsimp only at hab; split at hab <;> split at hab <;> omega, len - (i + 1), by omega, i + 1, rfl, by omega, rfl, rfl⟩
  simp only [Cont.row]
  by_cases hji : j < i
  ·simp [hji]
  ·have e : j = i := by omega
   subst e
   simp
 ·have e : i = len := by have := of_decide_eq_false t; omega
  subst e
  obtain ⟨rfl, rfl, rfl⟩ := h
  exact ⟨id, [(3, sL 1 i)], [(1, .cells true 1 i (.fn fun j => [.cpx true (cn (re j).toNat) (cn (im j).toNat)]))], fun _ _ => rfl, ⟨⟨_, rfl, AV.ge.refl _, rfl⟩, trivial⟩, ⟨⟨_, rfl, SameC.refl _, bare_cpx _ _ _ _, Nat.lt_succ_self _⟩, trivial⟩, fun _ _ _ _ h => h, rfl, rfl, rfl⟩
theorem nu_is : (bodyOf Try.f10) = .seq (nav [0] (bodyOf Try.f10)) (.seq (nav [1,0] (bodyOf Try.f10)) (.seq (.seq (nav [1,1,0,0] (bodyOf Try.f10)) (.block 0 (.loop (nav [1,1,0,1,0,0] (bodyOf Try.f10))))) (nav [1,1,1] (bodyOf Try.f10)))) := by kernel_rfl
theorem nu_goes (len : Nat) (re im : Nat → Int) (hr : ∀ j, j < len → 0 ≤ re j ∧ re j < 18446744073709551616 ∧ 0 ≤ im j ∧ im j < 18446744073709551616) (hl : len * 16 ≤ 140737488355328) :
  GoesB Try.prog (bodyOf Try.f10) Try.f10.ntmps 1 1 2 (frameOf [slcV 0 len] 0 .e) (hpL [(0, .cells false 2 len (.fn fun j => [.int true .u64 (re j), .int true .u64 (im j)]))]) fun e fr' H' => e = .ret ∧ fr' = frL [(2, sL 1 len)] ∧ H' = hpL [(1, .cells true 1 len (.fn fun j => [.cpx true (cn (re j).toNat) (cn (im j).toNat)]))] := by
 rw [nu_is]
 refine GoesB.seq (K1 := 1) (by omega) ((nuA 1 (by omega) len re im).mono fun e fr' H' ⟨e1, e2, e3⟩ => ?_)
 subst e1 e2 e3
 refine GoesB.seq (K1 := 1) (by omega) ((nuC 1 (by omega) len re im).mono fun e fr' H' ⟨e1, e2, e3⟩ => ?_)
 subst e1 e2 e3
 refine GoesB.seq (K1 := 2) (by omega) (GoesB.seq (K1 := 1) (by omega) ((nuD 1 (by omega) len re im).mono fun e fr' H' ⟨e1, e2, e3⟩ => ?_))
 subst e1 e2 e3
 refine GoesB.phantom 3 1 (fun j => [.cpx true (cn (re j).toNat) (cn (im j).toNat)]) rfl (by omega) (by omega) ?_
 refine GoesB.weakL (fl := [(0, slcV 0 len), (3, sL 1 0), (4, iT 0)]) (bl := [(0, .cells false 2 len (.fn fun j => [.int true .u64 (re j), .int true .u64 (im j)])), (1, .cells true 1 0 (.fn fun j => [.cpx true (cn (re j).toNat) (cn (im j).toNat)]))]) ⟨(Sx.re rfl), (Sx.re rfl), ⟨_, rfl, AV.ge.int _ _ _ _⟩, trivial⟩ ⟨hs rfl, hs rfl, trivial⟩ ?_
 refine GoesB.block ((GoesB.loop (nuI len re im) (Post := nuP len re im) (nu_body len re im hr hl) _ _ _ ⟨0, rfl, by omega, rfl, rfl⟩).mono fun e fr' H' ⟨e1, e2, e3⟩ => ?_)
 subst e1 e2 e3
 simp only [if_true]
 exact nuZ 1 (by omega) len _
def numP (len : Nat) (rows : Nat → List AV) : Prop := len * 16 ≤ 140737488355328 ∧ ∀ j, j < len → ZRow (rows j)
noncomputable def numbersS : List AV → M AV
 | [x] => (rd 2 x numP).andThen fun y => newS 1 y.1 fun j => [.cpx true (cn (zre (y.2 j)).toNat) (cn (zim (y.2 j)).toNat)]
 | _ => M.no
theorem numbersS_ok : ∀ args v g g', numbersS args g = .done v g' → CallIs Try.prog 10 args v g g' := by
 intro args v g g' h
 unfold numbersS at h
 split at h
 ·rename_i x
  obtain ⟨⟨len, rows⟩, g1, a1, h1⟩ := done_of h
  obtain ⟨q, kq, hq⟩ := rd_done a1 (by omega)
  obtain ⟨rfl, e1, e2, e3⟩ := newS_done h1
  dsimp only at e1 e2 hq
  rw [kq.1, kq.2.1] at e1
  rw [kq.2.1] at e2
  rw [kq.2.1]
  refine reads (c := (bodyOf Try.f10)) Try.func10 (by kernel_rfl) (by kernel_rfl) kq [⟨x, 2, len, rows⟩] (fun hp v hv => ?_) (argsC := [slcV 0 len]) (fun hp N μ cs hcs => ?_) (nms := [1]) (bs := [.cells true 1 len (.fn fun j => [.cpx true (cn (zre (rows j)).toNat) (cn (zim (rows j)).toNat)])]) (K' := 2) (fun hp => ?_) ?_ ?_ e1 e2 (fun h => by rw [← e3]; exact h)
  ·rcases List.mem_cons.1 hv with rfl | hv
   ·exact (hq hp).1
   ·cases hv
  ·simp only [Reps] at hcs
   obtain ⟨c, r, rfl, hc, rfl⟩ := hcs
   simp only [Reps]
   exact ⟨c, [], rfl, vw_val (l := [⟨x, 2, len, rows⟩]) (i := 0) (hq hp).1 rfl hc, rfl⟩
  ·obtain ⟨_, hl, hz⟩ := hq hp
   refine GoesB.weakGL (fl := [(0, slcV 0 len)]) (bl := [(0, .cells false 2 len (.fn fun j => [.int true .u64 (zre (rows j)), .int true .u64 (zim (rows j))]))]) ⟨re rfl, trivial⟩ ⟨⟨_, rfl, rfl, rfl, rfl, fun j hj => (hz j hj).ge⟩, trivial⟩ ?_
   refine (nu_goes len (fun j => zre (rows j)) (fun j => zim (rows j)) (fun j hj => (hz j hj).2) hl).mono fun e fr' H' ⟨e1, e2, e3⟩ => ?_
   subst e1 e2 e3
   exact ⟨.inl rfl, _, _, res1 (t := 2) (by kernel_rfl) rfl, trivial, ge_new _ _ _ _, news1 rfl (SameC.refl _) rfl (bare_cpx _ _ _ _)⟩
  ·simp [AV.low]
  ·show g.nx ≤ g.nx; exact Nat.le_refl _
 ·exact (no_done h).elim
theorem numbersS_tch : ∀ args, Tch (numbersS args) := by
 intro args
 unfold numbersS
 split
 ·exact (Tch.rd _ _ _).andThen fun _ => Tch.newS _ _ _
 ·exact Tch.no
theorem sr_r0 (x y : Nat) (c0 : decide ((↑x : Int) = (↑y : Int)) = true) : PureP (AV.bool true) (callV 34 [.raw true x, .raw true y] (G.on [true])) := eqq (q := (True ∧ (decide ((↑x : Int) = (↑y : Int)) = true))) (by kernel_rfl) ⟨trivial, c0⟩
theorem sr_r1 (x y : Nat) (c0 : decide ((↑x : Int) = (↑y : Int)) = false) (c1 : (!feq (cn x) (cn x)) = false) : PureP (AV.bool false) (callV 34 [.raw true x, .raw true y] (G.on [false, false])) := eqq (q := ((True ∧ (decide ((↑x : Int) = (↑y : Int)) = false)) ∧ ((!feq (cn x) (cn x)) = false))) (by kernel_rfl) ⟨⟨trivial, c0⟩, c1⟩
theorem sr_r2 (x y : Nat) (c0 : decide ((↑x : Int) = (↑y : Int)) = false) (c1 : (!feq (cn x) (cn x)) = true) : PureP (AV.sbool !feq (cn y) (cn y)) (callV 34 [.raw true x, .raw true y] (G.on [false, true])) := eqq (q := ((True ∧ (decide ((↑x : Int) = (↑y : Int)) = false)) ∧ ((!feq (cn x) (cn x)) = true))) (by kernel_rfl) ⟨⟨trivial, c0⟩, c1⟩
noncomputable def sr_0 (x y : Nat) : Bool := (bif decide ((↑x : Int) = (↑y : Int)) then (true) else (bif feq (cn x) (cn x) then (false) else (!feq (cn y) (cn y))))
noncomputable def srS : List AV → M AV
 | [.raw s0 x, .raw s1 y] => M.ret (cmpB (Bool.or s0 s1) (sr_0 x y))
 | args => callV 34 args
theorem srS_ok : ∀ args v g g', srS args g = .done v g' → CallIs Try.prog 34 args v g g' := by
 intro args v g g' h
 unfold srS at h
 split at h
 ·rename_i s0 x s1 y
  obtain ⟨rfl, rfl⟩ := ret_done h
  refine scal callV_ok fun μ cargs ha => ?_
  have ha' : Reps 0 MM.none [.raw true x, .raw true y] cargs.toList := by simpa only [Reps, Rep] using ha
  cases t0 : decide ((↑x : Int) = (↑y : Int)) with
  | true =>
   exact ⟨_, _, _, ha', sr_r0 x y t0, rfl, fun cv hc => by have := hc g.nx μ; have e0 : sr_0 x y = (true) := (ct t0).trans (rfl); rw [e0]; simpa only [Rep, Reps, Rep_cmpB] using this⟩
  | false =>
   cases t1 : feq (cn x) (cn x) with
   | true =>
    exact ⟨_, _, _, ha', sr_r1 x y t0 (by rw [t1]; rfl), rfl, fun cv hc => by have := hc g.nx μ; have e0 : sr_0 x y = (false) := (cf t0).trans ((ct t1).trans (rfl)); rw [e0]; simpa only [Rep, Reps, Rep_cmpB] using this⟩
   | false =>
    exact ⟨_, _, _, ha', sr_r2 x y t0 (by rw [t1]; rfl), rfl, fun cv hc => by have := hc g.nx μ; have e0 : sr_0 x y = (!feq (cn y) (cn y)) := (cf t0).trans ((cf t1).trans (rfl)); rw [e0]; simpa only [Rep, Reps, Rep_cmpB] using this⟩
 ·exact callV_ok _ _ _ _ _ h
theorem sr_eq (x y : Nat) (hx : x < 18446744073709551616) (hy : y < 18446744073709551616) : sr_0 x y = decide (cn x = cn y) := by
 unfold sr_0
 simp only [feq_selfc hx, feq_selfc hy]
 have e : decide ((x : Int) = (y : Int)) = decide (x = y) := decide_eq_decide.2 (by omega)
 simp only [e]
 cases h1 : isnan x <;> cases h2 : isnan y
 ·rw [cn_of_not h1, cn_of_not h2]; by_cases h : x = y <;> simp [h]
 ·rw [cn_of_not h1, cn_of_nan h2]
  have n1 : x ≠ qn := fun h => by rw [h] at h1; exact absurd h1 (by decide)
  have n2 : x ≠ y := fun h => by rw [h, h2] at h1; cases h1
  simp [n1, n2]
 ·rw [cn_of_nan h1, cn_of_not h2]
  have n1 : qn ≠ y := fun h => by rw [← h] at h2; exact absurd h2 (by decide)
  have n2 : x ≠ y := fun h => by rw [h, h2] at h1; cases h1
  simp [n1, n2]
 ·rw [cn_of_nan h1, cn_of_nan h2]; simp
noncomputable def srealV (x y : AV) : M AV :=
 match x, y with
 | .flt s a, .flt s' b => M.ret (cmpB (s || s') (decide (a = b)))
 | _, _ => M.no
noncomputable def srealS : List AV → M AV
 | [x, y] => srealV x.fl y.fl
 | _ => M.no
theorem srealS_ok : ∀ args v g g', srealS args g = .done v g' → CallIs Try.prog 34 args v g g' := by
 intro args v g g' h
 unfold srealS at h
 split at h
 ·rename_i x y
  generalize hx : x.fl = xf at h
  generalize hy : y.fl = yf at h
  unfold srealV at h
  split at h
  ·rename_i s a s' b
   obtain ⟨rfl, rfl⟩ := ret_done h
   refine ⟨id, fun hc μ w cargs hg ha => ?_⟩
   simp only [Reps] at ha
   obtain ⟨c1, _, e1, r1, c2, _, rfl, r2, rfl⟩ := ha
   have r1 := r1.fl
   have r2 := r2.fl
   rw [hx] at r1
   rw [hy] at r2
   simp only [Rep] at r1 r2
   obtain ⟨b1, rfl, q1, l1⟩ := r1
   obtain ⟨b2, rfl, q2, l2⟩ := r2
   have hS := srS_ok [.raw true b1, .raw true b2] (cmpB true (sr_0 b1 b2)) g g rfl
   refine (hS.2 hc μ w cargs hg (by rw [e1]; simp only [Reps]; exact ⟨_, _, rfl, by simp only [Rep]; exact ⟨trivial, l1⟩, _, _, rfl, by simp only [Rep]; exact ⟨trivial, l2⟩, rfl⟩)).mono fun cv w' hA => ?_
   obtain ⟨μ', k1, k2, k3⟩ := hA
   refine ⟨μ', ?_, k2, k3⟩
   rw [sr_eq _ _ l1 l2, q1, q2] at k1
   rw [Rep_cmpB] at k1 ⊢
   exact k1
  ·exact (no_done h).elim
 ·exact (no_done h).elim
theorem srealS_tch : ∀ args, Tch (srealS args) := by
 intro args
 unfold srealS
 split
 ·unfold srealV
  split
  ·exact Tch.ret _
  ·exact Tch.no
 ·exact Tch.no
noncomputable def scaleS : List AV → M AV
 | [.cpx s0 s w, x] => c1 x fun n a b => (M.newB (.cells true 1 ((fun n => n) n) (.fn (fun j => [.cpx true (fsub (fmul s (a j)) (fmul w (b j))) (fadd (fmul s (b j)) (fmul w (a j)))])))).andThen fun N => M.ret ((fun n N => .slc true true ⟨false, N, 0, 0⟩ n) n N)
 | _ => M.no
theorem scaleS_ok : ∀ args v g g', scaleS args g = .done v g' → CallIs Try.prog 13 args v g g' := by
 intro args v g g' h
 unfold scaleS at h
 split at h
 ·rename_i s0 s w x
  exact c1_new Try.func13 (by kernel_rfl) (by kernel_rfl) (pl := [.cpx s0 s w]) (pr := []) (fun u hu => by simp at hu; (try rcases hu with rfl | rfl) <;> (try subst hu) <;> rfl) (K' := 2) (nm := 1) (len := fun n => n) (val := fun n N => .slc true true ⟨false, N, 0, 0⟩ n) (rows := fun n a b => fun j => [.cpx true (fsub (fmul s (a j)) (fmul w (b j))) (fadd (fmul s (b j)) (fmul w (a j)))]) (fun n => Named.slc n) (fun n a b j hj u hu => low_c hu) (fun n a b hn hw => ((GoesB.weakL (fl := [(0, .cpx true s w), (1, slcV 0 n)]) (bl := [(0, cK false n a b)]) ⟨⟨_, rfl, AV.ge.cpx' _ _ rfl rfl⟩, re rfl, trivial⟩ ⟨hs rfl, trivial⟩ (sc_goes n s w a b hn))).mono fun e fr' H' hp => by obtain ⟨rfl, rfl, rfl⟩ := hp; exact ⟨.inl rfl, _, _, res1 (t := 4) (by kernel_rfl) rfl, trivial, AV.ge.refl _, news1 rfl (SameC.refl _) rfl (fun j hj u hu => low_c hu)⟩) _ _ _ _ h
 ·exact (no_done h).elim
theorem scaleS_tch : ∀ args, Tch (scaleS args) := by
 intro args
 unfold scaleS
 split
 ·exact Tch.c1 _ fun _ _ _ => (Tch.newB _).andThen fun _ => Tch.ret _
 ·exact Tch.no
noncomputable def finS : List AV → M AV
 | [x] => c1 x fun n a b => M.ret (.sbool (cd (∀ j, j < n → cfn a b j = true)))
 | _ => M.no
theorem finS_ok : ∀ args v g g', finS args g = .done v g' → CallIs Try.prog 42 args v g g' := by
 intro args v g g' h
 unfold finS at h
 split at h
 ·exact c1_plain Try.func42 (by kernel_rfl) (by kernel_rfl) (pl := []) (pr := []) (fun u hu => by simp at hu) (K' := 1) (res := fun n a b => .sbool (cd (∀ j, j < n → cfn a b j = true))) (fun n a b => ⟨fun N => by simp [AV.low, lows], fun S => by simp [AV.inS, insS], fun σ => rfl⟩) (fun n a b hn hw => (fi_goes n a b hn).mono fun e fr' H' hp => by obtain ⟨e1, e2⟩ := hp; exact ⟨.inl e1, _, _, res1 (t := 2) (by kernel_rfl) e2, trivial, AV.ge.bool _, news0⟩) _ _ _ _ h
 ·exact (no_done h).elim
theorem finS_tch : ∀ args, Tch (finS args) := by
 intro args
 unfold finS
 split
 ·exact Tch.c1 _ fun _ _ _ => Tch.ret _
 ·exact Tch.no
noncomputable def eqlS : List AV → M AV
 | [x, y] => c2 x y fun n a b m a' b' => M.ret (.sbool (cd (eqlP n m a b a' b')))
 | _ => M.no
theorem eqlS_ok : ∀ args v g g', eqlS args g = .done v g' → CallIs Try.prog 43 args v g g' := by
 intro args v g g' h
 unfold eqlS at h
 split at h
 ·exact c2_plain Try.func43 (by kernel_rfl) (by kernel_rfl) (pl := []) (pr := []) (fun u hu => by simp at hu) (K' := 2) (res := fun n a b m a' b' => .sbool (cd (eqlP n m a b a' b'))) (fun n a b m a' b' => ⟨fun N => by simp [AV.low, lows], fun S => by simp [AV.inS, insS], fun σ => rfl⟩) (fun n a b m a' b' hn hm hw hw' => (eq_goes n m a b a' b' hn).mono fun e fr' H' hp => by obtain ⟨e1, e2⟩ := hp; exact ⟨.inl e1, _, _, res1 (t := 4) (by kernel_rfl) e2, trivial, AV.ge.bool _, news0⟩) _ _ _ _ _ h
 ·exact (no_done h).elim
theorem eqlS_tch : ∀ args, Tch (eqlS args) := by
 intro args
 unfold eqlS
 split
 ·exact Tch.c2 _ _ fun _ _ _ _ _ _ => Tch.ret _
 ·exact Tch.no
noncomputable def gamW : Known := kc 61 toBits (kc 47 ofBits (kc 56 myS (kc 29 conjS (kc 35 no1S (kc 37 nomS (kc 21 dotS (kc 49 bothS (kc 13 scaleS (kc 42 finS (kc 43 eqlS (kc 10 numbersS (kc 34 srealS (kn)))))))))))))
theorem gamW_ok : KnownOk Try.prog gamW := kc_ok ((toBits_is Try.prog).callIs Try.func61 (by kernel_rfl) (by kernel_rfl) (by kernel_rfl) (by kernel_rfl)) (kc_ok ((ofBits_is Try.prog).callIs Try.func47 (by kernel_rfl) (by kernel_rfl) (by kernel_rfl) (by kernel_rfl)) (kc_ok myS_ok (kc_ok conjS_ok (kc_ok no1S_ok (kc_ok nomS_ok (kc_ok dotS_ok (kc_ok bothS_ok (kc_ok scaleS_ok (kc_ok finS_ok (kc_ok eqlS_ok (kc_ok numbersS_ok (kc_ok srealS_ok (kn_ok)))))))))))))
theorem gamW_tch : KnownT gamW := kc_tch Tch.toBits (kc_tch Tch.ofBits (kc_tch myS_tch (kc_tch conjS_tch (kc_tch no1S_tch (kc_tch nomS_tch (kc_tch dotS_tch (kc_tch bothS_tch (kc_tch scaleS_tch (kc_tch finS_tch (kc_tch eqlS_tch (kc_tch numbersS_tch (kc_tch srealS_tch (kn_tch)))))))))))))
noncomputable def callW : Calls' := Sx.runN Try.prog gamW (regionC Try.prog) 1000 50
theorem callW_ok : CallOk Try.prog callW := engineC gamW_ok gamW_tch (by kernel_rfl) (by kernel_rfl) 1000 50
theorem callW_tch : CallT callW := runA_tch gamW_tch (fun _ _ _ h => by cases h) (fun call hc n l fr => regionC_tch hc n l fr) 50
theorem callW_reg (n : Nat) : RegionOk Try.prog (regionC Try.prog callW n) n := runN_regionC gamW_ok gamW_tch (by kernel_rfl) (by kernel_rfl) 1000 50 n
noncomputable abbrev piececallW (f : Func) (c : Code) (fr : Fr) (H : T ABk) (K : Nat) (path : List Bool) : Res (Ex × Fr) :=
 codeA Try.prog callW (regionC Try.prog callW f.ntmps) noLoops f.ntmps 1000 c fr ⟨H, K, [], path, True⟩
theorem rcW {fn : Func} {K K' B : Nat} {e : Ex} {F : List (Nat × AV)} {Hl : List (Nat × ABk)} {c : Code} {fr : Fr} {H : T ABk} {path : List Bool} (h : PieceN K' e F Hl (piececallW fn c fr H K path)) (hB : B ≤ K) : GoesB Try.prog c fn.ntmps B K K' fr H fun e' fr' H' => e' = e ∧ fr' = frL F ∧ H' = hpL Hl := GoesB.runN callW_ok (callW_reg _) (LoopsIn.none _ _ _) h hB
theorem rwW_r0 (n m : Nat) (a b x y : Nat → Nat) (c0 : decide (65536 < (↑n : Int)) = true) : PieceN 2 (Ex.ret) [(4, .int false .i64 3)] [] (piececallW Try.f53 ((bodyOf Try.f53)) (frameOf [slcV 0 n, slcV 1 m] 0 .e) (hpL [(0, cK false n a b), (1, cK false m x y)]) 2 [true]) := eqn (by kernel_rfl) (ai trivial c0)
theorem rwW_r1 (n m : Nat) (a b x y : Nat → Nat) (c0 : decide (65536 < (↑n : Int)) = false) (c1 : decide (65536 < (↑m : Int)) = true) : PieceN 2 (Ex.ret) [(4, .int false .i64 3)] [] (piececallW Try.f53 ((bodyOf Try.f53)) (frameOf [slcV 0 n, slcV 1 m] 0 .e) (hpL [(0, cK false n a b), (1, cK false m x y)]) 2 [false, true]) := eqn (by kernel_rfl) (ai (ai trivial c0) c1)
theorem rwW_r2 (n m : Nat) (a b x y : Nat → Nat) (c0 : decide (65536 < (↑n : Int)) = false) (c1 : decide (65536 < (↑m : Int)) = false) (c2 : (!decide ((↑n : Int) = (↑m : Int))) = false) : PieceN 2 (Ex.ret) [(4, .int false .i64 0)] [] (piececallW Try.f53 ((bodyOf Try.f53)) (frameOf [slcV 0 n, slcV 1 m] 0 .e) (hpL [(0, cK false n a b), (1, cK false m x y)]) 2 [false, false, false]) := eqn (by kernel_rfl) (ai (ai (ai trivial c0) c1) c2)
theorem rwW_r3 (n m : Nat) (a b x y : Nat → Nat) (c0 : decide (65536 < (↑n : Int)) = false) (c1 : decide (65536 < (↑m : Int)) = false) (c2 : (!decide ((↑n : Int) = (↑m : Int))) = true) : PieceN 2 (Ex.ret) [(4, .int false .i64 4)] [] (piececallW Try.f53 ((bodyOf Try.f53)) (frameOf [slcV 0 n, slcV 1 m] 0 .e) (hpL [(0, cK false n a b), (1, cK false m x y)]) 2 [false, false, true]) := eqn (by kernel_rfl) (ai (ai (ai trivial c0) c1) c2)
theorem rwW (B : Nat) (hB : B ≤ 2) (n m : Nat) (a b x y : Nat → Nat) : GoesB Try.prog ((bodyOf Try.f53)) Try.f53.ntmps B 2 2 (frameOf [slcV 0 n, slcV 1 m] 0 .e) (hpL [(0, cK false n a b), (1, cK false m x y)]) fun e fr' H' => (cond (decide (65536 < (↑n : Int))) (e = .ret ∧ fr' = frL [(4, .int false .i64 3)] ∧ H' = hpL []) (cond (decide (65536 < (↑m : Int))) (e = .ret ∧ fr' = frL [(4, .int false .i64 3)] ∧ H' = hpL []) (cond (decide ((↑n : Int) = (↑m : Int))) (e = .ret ∧ fr' = frL [(4, .int false .i64 0)] ∧ H' = hpL []) (e = .ret ∧ fr' = frL [(4, .int false .i64 4)] ∧ H' = hpL [])))) := cD (fun q0 t0 => rcW (rwW_r0 n m a b x y t0) hB) (fun q0 t0 => cD (fun q1 t1 => rcW (rwW_r1 n m a b x y t0 t1) hB) (fun q1 t1 => cD (fun q2 t2 => rcW (rwW_r2 n m a b x y t0 t1 (by rw [t2]; rfl)) hB) (fun q2 t2 => rcW (rwW_r3 n m a b x y t0 t1 (by rw [t2]; rfl)) hB)))
theorem rw_goes (n m : Nat) (a b x y : Nat → Nat) :
  GoesB Try.prog (bodyOf Try.f53) Try.f53.ntmps 2 2 2 (frameOf [slcV 0 n, slcV 1 m] 0 .e) (hpL [(0, cK false n a b), (1, cK false m x y)]) fun e fr' H' => (e = .ret ∨ e = .normal) ∧ ∃ u, fr'.get 4 = some u ∧ AV.ge u (iT (vmay n m)) := by
 refine (rwW 2 (by omega) n m a b x y).mono fun e fr' H' h => ?_
 unfold vmay
 refine cond_elim h (fun t1 h => ?_) (fun t1 h => ?_)
 ·obtain ⟨rfl, rfl, rfl⟩ := h
  exact ⟨.inl rfl, _, rfl, by rw [t1]; exact AV.ge.int _ _ _ _⟩
 refine cond_elim h (fun t2 h => ?_) (fun t2 h => ?_)
 ·obtain ⟨rfl, rfl, rfl⟩ := h
  exact ⟨.inl rfl, _, rfl, by rw [t1, t2]; exact AV.ge.int _ _ _ _⟩
 refine cond_elim h (fun t3 h => ?_) (fun t3 h => ?_)
 ·obtain ⟨rfl, rfl, rfl⟩ := h
  exact ⟨.inl rfl, _, rfl, by rw [t1, t2, t3]; exact AV.ge.int _ _ _ _⟩
 ·obtain ⟨rfl, rfl, rfl⟩ := h
  exact ⟨.inl rfl, _, rfl, by rw [t1, t2, t3]; exact AV.ge.int _ _ _ _⟩
noncomputable def rwrS : List AV → M AV
 | [x, y] => c2 x y fun n a b m a' b' => M.ret (iT (vmay n m))
 | _ => M.no
theorem rwrS_ok : ∀ args v g g', rwrS args g = .done v g' → CallIs Try.prog 53 args v g g' := by
 intro args v g g' h
 unfold rwrS at h
 split at h
 ·exact c2_plain Try.func53 (by kernel_rfl) (by kernel_rfl) (pl := []) (pr := []) (fun u hu => by simp at hu) (K' := 2) (res := fun n a b m a' b' => iT (vmay n m)) (fun n a b m a' b' => ⟨fun N => by simp [AV.low, lows], fun S => by simp [AV.inS, insS], fun σ => rfl⟩) (fun n a b m a' b' hn hm hw hw' => (rw_goes n m a b a' b').mono fun e fr' H' hp => by obtain ⟨e1, u, e2, e3⟩ := hp; exact ⟨e1, _, _, res1 (t := 4) (by kernel_rfl) e2, trivial, e3, news0⟩) _ _ _ _ _ h
 ·exact (no_done h).elim
theorem rwrS_tch : ∀ args, Tch (rwrS args) := by
 intro args
 unfold rwrS
 split
 ·exact Tch.c2 _ _ fun _ _ _ _ _ _ => Tch.ret _
 ·exact Tch.no
noncomputable def gamR : Known := kc 61 toBits (kc 47 ofBits (kc 53 rwrS (kn)))
theorem gamR_ok : KnownOk Try.prog gamR := kc_ok ((toBits_is Try.prog).callIs Try.func61 (by kernel_rfl) (by kernel_rfl) (by kernel_rfl) (by kernel_rfl)) (kc_ok ((ofBits_is Try.prog).callIs Try.func47 (by kernel_rfl) (by kernel_rfl) (by kernel_rfl) (by kernel_rfl)) (kc_ok rwrS_ok (kn_ok)))
theorem gamR_tch : KnownT gamR := kc_tch Tch.toBits (kc_tch Tch.ofBits (kc_tch rwrS_tch (kn_tch)))
noncomputable def callR : Calls' := Sx.runN Try.prog gamR (regionC Try.prog) 1000 50
theorem callR_ok : CallOk Try.prog callR := engineC gamR_ok gamR_tch (by kernel_rfl) (by kernel_rfl) 1000 50
theorem callR_reg (n : Nat) : RegionOk Try.prog (regionC Try.prog callR n) n := runN_regionC gamR_ok gamR_tch (by kernel_rfl) (by kernel_rfl) 1000 50 n
noncomputable abbrev piececallR (f : Func) (c : Code) (fr : Fr) (H : T ABk) (K : Nat) (path : List Bool) : Res (Ex × Fr) :=
 codeA Try.prog callR (regionC Try.prog callR f.ntmps) noLoops f.ntmps 1000 c fr ⟨H, K, [], path, True⟩


theorem rcR {fn : Func} {K K' B : Nat} {e : Ex} {F : List (Nat × AV)} {Hl : List (Nat × ABk)} {c : Code} {fr : Fr} {H : T ABk} {path : List Bool} (h : PieceN K' e F Hl (piececallR fn c fr H K path)) (hB : B ≤ K) : GoesB Try.prog c fn.ntmps B K K' fr H fun e' fr' H' => e' = e ∧ fr' = frL F ∧ H' = hpL Hl := GoesB.runN callR_ok (callR_reg _) (LoopsIn.none _ _ _) h hB
theorem sg4_inj (i j : Nat) (hi : i < 3) (hj : j < 3) (h : (if i = 2 then 4 else i) = if j = 2 then 4 else j) : i = j := by
 split at h <;> split at h <;> omega
theorem sg3_inj (i j : Nat) (hi : i < 2) (hj : j < 2) (h : (if i = 1 then 3 else i) = if j = 1 then 3 else j) : i = j := by
 split at h <;> split at h <;> omega
theorem faA_r0 (n m : Nat) (a b x y : Nat → Nat) : PieceN 2 (Ex.normal) [(0, .slc true false ⟨false, 0, 0, 0⟩ n), (1, .slc true false ⟨false, 1, 0, 0⟩ m)] [(0, cK false n a b), (1, cK false m x y)] (piececallR Try.f30 (nav [0] (bodyOf Try.f30)) (frameOf [slcV 0 n, slcV 1 m] 0 .e) (hpL [(0, cK false n a b), (1, cK false m x y)]) 2 []) := eqn (by kernel_rfl) trivial
theorem faA (B : Nat) (hB : B ≤ 2) (n m i : Nat) (k : Int) (a b x y : Nat → Nat) (q : Nat → List AV) : GoesB Try.prog (nav [0] (bodyOf Try.f30)) Try.f30.ntmps B 2 2 (frameOf [slcV 0 n, slcV 1 m] 0 .e) (hpL [(0, cK false n a b), (1, cK false m x y)]) fun e fr' H' => (e = .normal ∧ fr' = frL [(0, .slc true false ⟨false, 0, 0, 0⟩ n), (1, .slc true false ⟨false, 1, 0, 0⟩ m)] ∧ H' = hpL [(0, cK false n a b), (1, cK false m x y)]) := rcR (faA_r0 n m a b x y) hB
theorem faB_r0 (n m : Nat) (a b x y : Nat → Nat) (c0 : 0 + n ≤ n) (c1 : Nat.le (n * 16) 140737488355328) (c2 : ∀ (j : Nat), j < n → CRow [.cpx true (a (0 + j)) (b (0 + j))]) (c3 : ∀ (j : Nat), j < n → ∀ (u : AV), u ∈ [AV.cpx true (a (0 + j)) (b (0 + j))] → AV.low 0 u = true) (c4 : 0 + m ≤ m) (c5 : Nat.le (m * 16) 140737488355328) (c6 : ∀ (j : Nat), j < m → CRow [.cpx true (x (0 + j)) (y (0 + j))]) (c7 : ∀ (j : Nat), j < m → ∀ (u : AV), u ∈ [AV.cpx true (x (0 + j)) (y (0 + j))] → AV.low 0 u = true) : PieceN 2 (Ex.normal) [(0, .slc true false ⟨false, 0, 0, 0⟩ n), (1, .slc true false ⟨false, 1, 0, 0⟩ m), (6, iT (vmay n m))] [(0, cK false n a b), (1, cK false m x y)] (piececallR Try.f30 (nav [1,0] (bodyOf Try.f30)) (frL [(0, slcV 0 n), (1, slcV 1 m)]) (hpL [(0, cK false n a b), (1, cK false m x y)]) 2 []) := eqn (by kernel_rfl) (ai (ai (ai (ai trivial c0) (ai (ai c1 c2) c3)) c4) (ai (ai c5 c6) c7))
theorem faB (B : Nat) (hB : B ≤ 2) (n m i : Nat) (k : Int) (a b x y : Nat → Nat) (q : Nat → List AV) (x0 : (Nat.le (n * 16) 140737488355328)) (x1 : (∀ (j : Nat), j < n → CRow [.cpx true (a (0 + j)) (b (0 + j))])) (x2 : (∀ (j : Nat), j < n → ∀ (u : AV), u ∈ [AV.cpx true (a (0 + j)) (b (0 + j))] → AV.low 0 u = true)) (x3 : (Nat.le (m * 16) 140737488355328)) (x4 : (∀ (j : Nat), j < m → CRow [.cpx true (x (0 + j)) (y (0 + j))])) (x5 : (∀ (j : Nat), j < m → ∀ (u : AV), u ∈ [AV.cpx true (x (0 + j)) (y (0 + j))] → AV.low 0 u = true)) : GoesB Try.prog (nav [1,0] (bodyOf Try.f30)) Try.f30.ntmps B 2 2 (frL [(0, slcV 0 n), (1, slcV 1 m)]) (hpL [(0, cK false n a b), (1, cK false m x y)]) fun e fr' H' => (e = .normal ∧ fr' = frL [(0, .slc true false ⟨false, 0, 0, 0⟩ n), (1, .slc true false ⟨false, 1, 0, 0⟩ m), (6, iT (vmay n m))] ∧ H' = hpL [(0, cK false n a b), (1, cK false m x y)]) := rcR (faB_r0 n m a b x y (by omega) x0 x1 x2 (by omega) x3 x4 x5) hB
theorem faC_r0 (n m : Nat) (k : Int) (a b x y : Nat → Nat) : PieceN 2 (Ex.normal) [(0, .slc true false ⟨false, 0, 0, 0⟩ n), (1, .slc true false ⟨false, 1, 0, 0⟩ m), (6, iT k), (7, .nils)] [(0, cK false n a b), (1, cK false m x y)] (piececallR Try.f30 (nav [1,1,0] (bodyOf Try.f30)) (frL [(0, slcV 0 n), (1, slcV 1 m), (6, iT k)]) (hpL [(0, cK false n a b), (1, cK false m x y)]) 2 []) := eqn (by kernel_rfl) trivial
theorem faC (B : Nat) (hB : B ≤ 2) (n m i : Nat) (k : Int) (a b x y : Nat → Nat) (q : Nat → List AV) : GoesB Try.prog (nav [1,1,0] (bodyOf Try.f30)) Try.f30.ntmps B 2 2 (frL [(0, slcV 0 n), (1, slcV 1 m), (6, iT k)]) (hpL [(0, cK false n a b), (1, cK false m x y)]) fun e fr' H' => (e = .normal ∧ fr' = frL [(0, .slc true false ⟨false, 0, 0, 0⟩ n), (1, .slc true false ⟨false, 1, 0, 0⟩ m), (6, iT k), (7, .nils)] ∧ H' = hpL [(0, cK false n a b), (1, cK false m x y)]) := rcR (faC_r0 n m k a b x y) hB
theorem faD_r0 (n i : Nat) (a b x y : Nat → Nat) (q : Nat → List AV) : PieceN 3 (Ex.normal) [(0, .slc true false ⟨false, 0, 0, 0⟩ n), (1, .slc true false ⟨false, 1, 0, 0⟩ n), (6, iT 0), (7, sL 2 i), (8, .int false .i64 0)] [(0, cK false n a b), (1, cK false n x y), (2, .cells true 1 i (Cont.fn q))] (piececallR Try.f30 (nav [1,1,1,0,0] (bodyOf Try.f30)) (frL [(0, slcV 0 n), (1, slcV 1 n), (6, iT 0), (7, sL 2 i)]) (hpL [(0, cK false n a b), (1, cK false n x y), (2, .cells true 1 (i) (.fn q))]) 3 []) := eqn (by kernel_rfl) trivial
theorem faD (B : Nat) (hB : B ≤ 3) (n m i : Nat) (k : Int) (a b x y : Nat → Nat) (q : Nat → List AV) : GoesB Try.prog (nav [1,1,1,0,0] (bodyOf Try.f30)) Try.f30.ntmps B 3 3 (frL [(0, slcV 0 n), (1, slcV 1 n), (6, iT 0), (7, sL 2 i)]) (hpL [(0, cK false n a b), (1, cK false n x y), (2, .cells true 1 (i) (.fn q))]) fun e fr' H' => (e = .normal ∧ fr' = frL [(0, .slc true false ⟨false, 0, 0, 0⟩ n), (1, .slc true false ⟨false, 1, 0, 0⟩ n), (6, iT 0), (7, sL 2 i), (8, .int false .i64 0)] ∧ H' = hpL [(0, cK false n a b), (1, cK false n x y), (2, .cells true 1 i (Cont.fn q))]) := rcR (faD_r0 n i a b x y q) hB
theorem faL_r0 (n i : Nat) (a b x y : Nat → Nat) (q : Nat → List AV) (c0 : true = true) (c1 : decide ((↑i : Int) < (↑n : Int)) = true) (c2 : 0 ≤ (↑i : Int)) (c3 : (↑i : Int) < (↑n : Int)) (c4 : 0 + i < n) (c5 : 0 + i < n) (c6 : i ≤ i) (c7 : (i + 1) * 16 ≤ 140737488355328) (c8 : i + 1 ≤ 9223372036854775807) (c9 : -9223372036854775808 ≤ (↑i : Int) + 1) (c10 : (↑i : Int) + 1 ≤ (9223372036854775807 : Int)) : PieceN 5 (Ex.normal) [(0, .slc true false ⟨false, 0, 0, 0⟩ n), (1, .slc true false ⟨false, 1, 0, 0⟩ n), (6, iT 0), (7, sL 4 (i + 1)), (8, iT ((↑i : Int) + 1))] [(0, cK false n a b), (1, cK false n x y), (4, .cells true 1 (i + 1) (.fn fun j => bif decide (j < i) then q j else [.cpx true (fadd (a (0 + i)) (x (0 + i))) (fadd (b (0 + i)) (y (0 + i)))]))] (piececallR Try.f30 (nav [1,1,1,0,1,0,0] (bodyOf Try.f30)) (frL [(0, slcV 0 n), (1, slcV 1 n), (6, iT 0), (7, sL 2 i), (8, iT i)]) (hpL [(0, cK false n a b), (1, cK false n x y), (2, .cells true 1 (i) (.fn q))]) 3 [true, true]) := eqn (by kernel_rfl) (ai (ai (ai (ai (ai (ai (ai (ai trivial c0) c1) (ai c2 c3)) c4) (ai c2 c3)) c5) (ai c6 (ai c7 c8))) (ai c9 c10))
theorem faL_r1 (n i : Nat) (a b x y : Nat → Nat) (q : Nat → List AV) (c0 : true = true) (c1 : decide ((↑i : Int) < (↑n : Int)) = false) : PieceN 5 (Ex.exit 0) [(0, .slc true false ⟨false, 0, 0, 0⟩ n), (1, .slc true false ⟨false, 1, 0, 0⟩ n), (6, iT 0), (7, sL 2 i), (8, iT (↑i : Int))] [(0, cK false n a b), (1, cK false n x y), (2, .cells true 1 i (Cont.fn q))] (piececallR Try.f30 (nav [1,1,1,0,1,0,0] (bodyOf Try.f30)) (frL [(0, slcV 0 n), (1, slcV 1 n), (6, iT 0), (7, sL 2 i), (8, iT i)]) (hpL [(0, cK false n a b), (1, cK false n x y), (2, .cells true 1 (i) (.fn q))]) 3 [true, false]) := eqn (by kernel_rfl) (ai (ai trivial c0) c1)
theorem faL (B : Nat) (hB : B ≤ 3) (n m i : Nat) (k : Int) (a b x y : Nat → Nat) (q : Nat → List AV) (x0 : ((decide ((↑i : Int) < (↑n : Int))) = true → ((i + 1) * 16 ≤ 140737488355328))) (x1 : ((decide ((↑i : Int) < (↑n : Int))) = true → (i + 1 ≤ 9223372036854775807))) (x2 : ((decide ((↑i : Int) < (↑n : Int))) = true → ((↑i : Int) + 1 ≤ (9223372036854775807 : Int)))) : GoesB Try.prog (nav [1,1,1,0,1,0,0] (bodyOf Try.f30)) Try.f30.ntmps B 3 5 (frL [(0, slcV 0 n), (1, slcV 1 n), (6, iT 0), (7, sL 2 i), (8, iT i)]) (hpL [(0, cK false n a b), (1, cK false n x y), (2, .cells true 1 (i) (.fn q))]) fun e fr' H' => (cond (decide ((↑i : Int) < (↑n : Int))) (e = .normal ∧ fr' = frL [(0, .slc true false ⟨false, 0, 0, 0⟩ n), (1, .slc true false ⟨false, 1, 0, 0⟩ n), (6, iT 0), (7, sL 4 (i + 1)), (8, iT ((↑i : Int) + 1))] ∧ H' = hpL [(0, cK false n a b), (1, cK false n x y), (4, .cells true 1 (i + 1) (.fn fun j => bif decide (j < i) then q j else [.cpx true (fadd (a (0 + i)) (x (0 + i))) (fadd (b (0 + i)) (y (0 + i)))]))]) (e = .exit 0 ∧ fr' = frL [(0, .slc true false ⟨false, 0, 0, 0⟩ n), (1, .slc true false ⟨false, 1, 0, 0⟩ n), (6, iT 0), (7, sL 2 i), (8, iT (↑i : Int))] ∧ H' = hpL [(0, cK false n a b), (1, cK false n x y), (2, .cells true 1 i (Cont.fn q))])) := cD (fun q0 t0 => rcR (faL_r0 n i a b x y q rfl t0 (by omega) (by omega) (by omega) (by omega) (by omega) (x0 t0) (x1 t0) (by omega) (x2 t0)) hB) (fun q0 t0 => rcR (faL_r1 n i a b x y q rfl t0) hB)
theorem faZ_r0 (i : Nat) (q : Nat → List AV) : PieceN 3 (Ex.ret) [(4, sL 2 i), (5, iT 0)] [(2, .cells true 1 i (Cont.fn q))] (piececallR Try.f30 (nav [1,1,1,1] (bodyOf Try.f30)) (frL [(6, iT 0), (7, sL 2 i)]) (hpL [(2, .cells true 1 (i) (.fn q))]) 3 []) := eqn (by kernel_rfl) trivial
theorem faZ (B : Nat) (hB : B ≤ 3) (n m i : Nat) (k : Int) (a b x y : Nat → Nat) (q : Nat → List AV) : GoesB Try.prog (nav [1,1,1,1] (bodyOf Try.f30)) Try.f30.ntmps B 3 3 (frL [(6, iT 0), (7, sL 2 i)]) (hpL [(2, .cells true 1 (i) (.fn q))]) fun e fr' H' => (e = .ret ∧ fr' = frL [(4, sL 2 i), (5, iT 0)] ∧ H' = hpL [(2, .cells true 1 i (Cont.fn q))]) := rcR (faZ_r0 i q) hB
theorem faF_r0 (n m : Nat) (k : Int) (a b x y : Nat → Nat) : PieceN 2 (Ex.normal) [(0, .slc true false ⟨false, 0, 0, 0⟩ n), (1, .slc true false ⟨false, 1, 0, 0⟩ m), (6, iT k), (7, .nils), (8, .int false .i64 0)] [(0, cK false n a b), (1, cK false m x y)] (piececallR Try.f30 (nav [1,1,1,0,0] (bodyOf Try.f30)) (frL [(0, slcV 0 n), (1, slcV 1 m), (6, iT k), (7, .nils)]) (hpL [(0, cK false n a b), (1, cK false m x y)]) 2 []) := eqn (by kernel_rfl) trivial
theorem faF (B : Nat) (hB : B ≤ 2) (n m i : Nat) (k : Int) (a b x y : Nat → Nat) (q : Nat → List AV) : GoesB Try.prog (nav [1,1,1,0,0] (bodyOf Try.f30)) Try.f30.ntmps B 2 2 (frL [(0, slcV 0 n), (1, slcV 1 m), (6, iT k), (7, .nils)]) (hpL [(0, cK false n a b), (1, cK false m x y)]) fun e fr' H' => (e = .normal ∧ fr' = frL [(0, .slc true false ⟨false, 0, 0, 0⟩ n), (1, .slc true false ⟨false, 1, 0, 0⟩ m), (6, iT k), (7, .nils), (8, .int false .i64 0)] ∧ H' = hpL [(0, cK false n a b), (1, cK false m x y)]) := rcR (faF_r0 n m k a b x y) hB
theorem faM_r0 (n m : Nat) (k : Int) (a b x y : Nat → Nat) (c0 : decide (k = (0 : Int)) = true) (c1 : decide (0 < (↑n : Int)) = true) (c2 : (0 : Int) ≤ 0) (c3 : 0 < (↑n : Int)) (c4 : 0 < n) (c5 : 0 < (↑m : Int)) (c6 : 0 < m) (c7 : (-9223372036854775808 : Int) ≤ 1) (c8 : (1 : Int) ≤ 9223372036854775807) : PieceN 4 (Ex.normal) [(6, iT k), (7, .slc false true ⟨false, 3, 0, 0⟩ 1)] [] (piececallR Try.f30 (nav [1,1,1,0,1,0,0] (bodyOf Try.f30)) (frL [(0, slcV 0 n), (1, slcV 1 m), (6, iT k), (7, .nils), (8, iT 0)]) (hpL [(0, cK false n a b), (1, cK false m x y)]) 2 [true, true]) := eqn (by kernel_rfl) (ai (ai (ai (ai (ai (ai (ai trivial c0) c1) (ai c2 c3)) c4) (ai c2 c5)) c6) (ai c7 c8))
theorem faM_r1 (n m : Nat) (k : Int) (a b x y : Nat → Nat) (c0 : decide (k = (0 : Int)) = true) (c1 : decide (0 < (↑n : Int)) = false) : PieceN 4 (Ex.exit 0) [(6, iT k), (7, .nils)] [] (piececallR Try.f30 (nav [1,1,1,0,1,0,0] (bodyOf Try.f30)) (frL [(0, slcV 0 n), (1, slcV 1 m), (6, iT k), (7, .nils), (8, iT 0)]) (hpL [(0, cK false n a b), (1, cK false m x y)]) 2 [true, false]) := eqn (by kernel_rfl) (ai (ai trivial c0) c1)
theorem faM_r2 (n m : Nat) (k : Int) (a b x y : Nat → Nat) (c0 : decide (k = (0 : Int)) = false) : PieceN 4 (Ex.exit 0) [(6, iT k), (7, .nils)] [] (piececallR Try.f30 (nav [1,1,1,0,1,0,0] (bodyOf Try.f30)) (frL [(0, slcV 0 n), (1, slcV 1 m), (6, iT k), (7, .nils), (8, iT 0)]) (hpL [(0, cK false n a b), (1, cK false m x y)]) 2 [false]) := eqn (by kernel_rfl) (ai trivial c0)
theorem faM (B : Nat) (hB : B ≤ 2) (n m i : Nat) (k : Int) (a b x y : Nat → Nat) (q : Nat → List AV) (x0 : ((decide (k = (0 : Int))) = true → ((decide (0 < (↑n : Int))) = true → (0 < (↑m : Int))))) (x1 : ((decide (k = (0 : Int))) = true → ((decide (0 < (↑n : Int))) = true → (0 < m)))) : GoesB Try.prog (nav [1,1,1,0,1,0,0] (bodyOf Try.f30)) Try.f30.ntmps B 2 4 (frL [(0, slcV 0 n), (1, slcV 1 m), (6, iT k), (7, .nils), (8, iT 0)]) (hpL [(0, cK false n a b), (1, cK false m x y)]) fun e fr' H' => (cond (decide (k = (0 : Int))) (cond (decide (0 < (↑n : Int))) (e = .normal ∧ fr' = frL [(6, iT k), (7, .slc false true ⟨false, 3, 0, 0⟩ 1)] ∧ H' = hpL []) (e = .exit 0 ∧ fr' = frL [(6, iT k), (7, .nils)] ∧ H' = hpL [])) (e = .exit 0 ∧ fr' = frL [(6, iT k), (7, .nils)] ∧ H' = hpL [])) := cD (fun q0 t0 => cD (fun q1 t1 => rcR (faM_r0 n m k a b x y t0 t1 (by omega) (by omega) (by omega) (x0 t0 t1) (x1 t0 t1) (by omega) (by omega)) hB) (fun q1 t1 => rcR (faM_r1 n m k a b x y t0 t1) hB)) (fun q0 t0 => rcR (faM_r2 n m k a b x y t0) hB)
theorem faY_r0 (k : Int) : PieceN 2 (Ex.ret) [(4, .nils), (5, iT k)] [] (piececallR Try.f30 (nav [1,1,1,1] (bodyOf Try.f30)) (frL [(6, iT k), (7, .nils)]) (hpL []) 2 []) := eqn (by kernel_rfl) trivial
theorem faY (B : Nat) (hB : B ≤ 2) (n m i : Nat) (k : Int) (a b x y : Nat → Nat) (q : Nat → List AV) : GoesB Try.prog (nav [1,1,1,1] (bodyOf Try.f30)) Try.f30.ntmps B 2 2 (frL [(6, iT k), (7, .nils)]) (hpL []) fun e fr' H' => (e = .ret ∧ fr' = frL [(4, .nils), (5, iT k)] ∧ H' = hpL []) := rcR (faY_r0 k) hB
theorem fsA_r0 (n m : Nat) (a b x y : Nat → Nat) : PieceN 2 (Ex.normal) [(0, .slc true false ⟨false, 0, 0, 0⟩ n), (1, .slc true false ⟨false, 1, 0, 0⟩ m)] [(0, cK false n a b), (1, cK false m x y)] (piececallR Try.f31 (nav [0] (bodyOf Try.f31)) (frameOf [slcV 0 n, slcV 1 m] 0 .e) (hpL [(0, cK false n a b), (1, cK false m x y)]) 2 []) := eqn (by kernel_rfl) trivial
theorem fsA (B : Nat) (hB : B ≤ 2) (n m i : Nat) (k : Int) (a b x y : Nat → Nat) (q : Nat → List AV) : GoesB Try.prog (nav [0] (bodyOf Try.f31)) Try.f31.ntmps B 2 2 (frameOf [slcV 0 n, slcV 1 m] 0 .e) (hpL [(0, cK false n a b), (1, cK false m x y)]) fun e fr' H' => (e = .normal ∧ fr' = frL [(0, .slc true false ⟨false, 0, 0, 0⟩ n), (1, .slc true false ⟨false, 1, 0, 0⟩ m)] ∧ H' = hpL [(0, cK false n a b), (1, cK false m x y)]) := rcR (fsA_r0 n m a b x y) hB
theorem fsB_r0 (n m : Nat) (a b x y : Nat → Nat) (c0 : 0 + n ≤ n) (c1 : Nat.le (n * 16) 140737488355328) (c2 : ∀ (j : Nat), j < n → CRow [.cpx true (a (0 + j)) (b (0 + j))]) (c3 : ∀ (j : Nat), j < n → ∀ (u : AV), u ∈ [AV.cpx true (a (0 + j)) (b (0 + j))] → AV.low 0 u = true) (c4 : 0 + m ≤ m) (c5 : Nat.le (m * 16) 140737488355328) (c6 : ∀ (j : Nat), j < m → CRow [.cpx true (x (0 + j)) (y (0 + j))]) (c7 : ∀ (j : Nat), j < m → ∀ (u : AV), u ∈ [AV.cpx true (x (0 + j)) (y (0 + j))] → AV.low 0 u = true) : PieceN 2 (Ex.normal) [(0, .slc true false ⟨false, 0, 0, 0⟩ n), (1, .slc true false ⟨false, 1, 0, 0⟩ m), (6, iT (vmay n m))] [(0, cK false n a b), (1, cK false m x y)] (piececallR Try.f31 (nav [1,0] (bodyOf Try.f31)) (frL [(0, slcV 0 n), (1, slcV 1 m)]) (hpL [(0, cK false n a b), (1, cK false m x y)]) 2 []) := eqn (by kernel_rfl) (ai (ai (ai (ai trivial c0) (ai (ai c1 c2) c3)) c4) (ai (ai c5 c6) c7))
theorem fsB (B : Nat) (hB : B ≤ 2) (n m i : Nat) (k : Int) (a b x y : Nat → Nat) (q : Nat → List AV) (x0 : (Nat.le (n * 16) 140737488355328)) (x1 : (∀ (j : Nat), j < n → CRow [.cpx true (a (0 + j)) (b (0 + j))])) (x2 : (∀ (j : Nat), j < n → ∀ (u : AV), u ∈ [AV.cpx true (a (0 + j)) (b (0 + j))] → AV.low 0 u = true)) (x3 : (Nat.le (m * 16) 140737488355328)) (x4 : (∀ (j : Nat), j < m → CRow [.cpx true (x (0 + j)) (y (0 + j))])) (x5 : (∀ (j : Nat), j < m → ∀ (u : AV), u ∈ [AV.cpx true (x (0 + j)) (y (0 + j))] → AV.low 0 u = true)) : GoesB Try.prog (nav [1,0] (bodyOf Try.f31)) Try.f31.ntmps B 2 2 (frL [(0, slcV 0 n), (1, slcV 1 m)]) (hpL [(0, cK false n a b), (1, cK false m x y)]) fun e fr' H' => (e = .normal ∧ fr' = frL [(0, .slc true false ⟨false, 0, 0, 0⟩ n), (1, .slc true false ⟨false, 1, 0, 0⟩ m), (6, iT (vmay n m))] ∧ H' = hpL [(0, cK false n a b), (1, cK false m x y)]) := rcR (fsB_r0 n m a b x y (by omega) x0 x1 x2 (by omega) x3 x4 x5) hB
theorem fsC_r0 (n m : Nat) (k : Int) (a b x y : Nat → Nat) : PieceN 2 (Ex.normal) [(0, .slc true false ⟨false, 0, 0, 0⟩ n), (1, .slc true false ⟨false, 1, 0, 0⟩ m), (6, iT k), (7, .nils)] [(0, cK false n a b), (1, cK false m x y)] (piececallR Try.f31 (nav [1,1,0] (bodyOf Try.f31)) (frL [(0, slcV 0 n), (1, slcV 1 m), (6, iT k)]) (hpL [(0, cK false n a b), (1, cK false m x y)]) 2 []) := eqn (by kernel_rfl) trivial
theorem fsC (B : Nat) (hB : B ≤ 2) (n m i : Nat) (k : Int) (a b x y : Nat → Nat) (q : Nat → List AV) : GoesB Try.prog (nav [1,1,0] (bodyOf Try.f31)) Try.f31.ntmps B 2 2 (frL [(0, slcV 0 n), (1, slcV 1 m), (6, iT k)]) (hpL [(0, cK false n a b), (1, cK false m x y)]) fun e fr' H' => (e = .normal ∧ fr' = frL [(0, .slc true false ⟨false, 0, 0, 0⟩ n), (1, .slc true false ⟨false, 1, 0, 0⟩ m), (6, iT k), (7, .nils)] ∧ H' = hpL [(0, cK false n a b), (1, cK false m x y)]) := rcR (fsC_r0 n m k a b x y) hB
theorem fsD_r0 (n i : Nat) (a b x y : Nat → Nat) (q : Nat → List AV) : PieceN 3 (Ex.normal) [(0, .slc true false ⟨false, 0, 0, 0⟩ n), (1, .slc true false ⟨false, 1, 0, 0⟩ n), (6, iT 0), (7, sL 2 i), (8, .int false .i64 0)] [(0, cK false n a b), (1, cK false n x y), (2, .cells true 1 i (Cont.fn q))] (piececallR Try.f31 (nav [1,1,1,0,0] (bodyOf Try.f31)) (frL [(0, slcV 0 n), (1, slcV 1 n), (6, iT 0), (7, sL 2 i)]) (hpL [(0, cK false n a b), (1, cK false n x y), (2, .cells true 1 (i) (.fn q))]) 3 []) := eqn (by kernel_rfl) trivial
theorem fsD (B : Nat) (hB : B ≤ 3) (n m i : Nat) (k : Int) (a b x y : Nat → Nat) (q : Nat → List AV) : GoesB Try.prog (nav [1,1,1,0,0] (bodyOf Try.f31)) Try.f31.ntmps B 3 3 (frL [(0, slcV 0 n), (1, slcV 1 n), (6, iT 0), (7, sL 2 i)]) (hpL [(0, cK false n a b), (1, cK false n x y), (2, .cells true 1 (i) (.fn q))]) fun e fr' H' => (e = .normal ∧ fr' = frL [(0, .slc true false ⟨false, 0, 0, 0⟩ n), (1, .slc true false ⟨false, 1, 0, 0⟩ n), (6, iT 0), (7, sL 2 i), (8, .int false .i64 0)] ∧ H' = hpL [(0, cK false n a b), (1, cK false n x y), (2, .cells true 1 i (Cont.fn q))]) := rcR (fsD_r0 n i a b x y q) hB
theorem fsL_r0 (n i : Nat) (a b x y : Nat → Nat) (q : Nat → List AV) (c0 : true = true) (c1 : decide ((↑i : Int) < (↑n : Int)) = true) (c2 : 0 ≤ (↑i : Int)) (c3 : (↑i : Int) < (↑n : Int)) (c4 : 0 + i < n) (c5 : 0 + i < n) (c6 : i ≤ i) (c7 : (i + 1) * 16 ≤ 140737488355328) (c8 : i + 1 ≤ 9223372036854775807) (c9 : -9223372036854775808 ≤ (↑i : Int) + 1) (c10 : (↑i : Int) + 1 ≤ (9223372036854775807 : Int)) : PieceN 5 (Ex.normal) [(0, .slc true false ⟨false, 0, 0, 0⟩ n), (1, .slc true false ⟨false, 1, 0, 0⟩ n), (6, iT 0), (7, sL 4 (i + 1)), (8, iT ((↑i : Int) + 1))] [(0, cK false n a b), (1, cK false n x y), (4, .cells true 1 (i + 1) (.fn fun j => bif decide (j < i) then q j else [.cpx true (fsub (a (0 + i)) (x (0 + i))) (fsub (b (0 + i)) (y (0 + i)))]))] (piececallR Try.f31 (nav [1,1,1,0,1,0,0] (bodyOf Try.f31)) (frL [(0, slcV 0 n), (1, slcV 1 n), (6, iT 0), (7, sL 2 i), (8, iT i)]) (hpL [(0, cK false n a b), (1, cK false n x y), (2, .cells true 1 (i) (.fn q))]) 3 [true, true]) := eqn (by kernel_rfl) (ai (ai (ai (ai (ai (ai (ai (ai trivial c0) c1) (ai c2 c3)) c4) (ai c2 c3)) c5) (ai c6 (ai c7 c8))) (ai c9 c10))
theorem fsL_r1 (n i : Nat) (a b x y : Nat → Nat) (q : Nat → List AV) (c0 : true = true) (c1 : decide ((↑i : Int) < (↑n : Int)) = false) : PieceN 5 (Ex.exit 0) [(0, .slc true false ⟨false, 0, 0, 0⟩ n), (1, .slc true false ⟨false, 1, 0, 0⟩ n), (6, iT 0), (7, sL 2 i), (8, iT (↑i : Int))] [(0, cK false n a b), (1, cK false n x y), (2, .cells true 1 i (Cont.fn q))] (piececallR Try.f31 (nav [1,1,1,0,1,0,0] (bodyOf Try.f31)) (frL [(0, slcV 0 n), (1, slcV 1 n), (6, iT 0), (7, sL 2 i), (8, iT i)]) (hpL [(0, cK false n a b), (1, cK false n x y), (2, .cells true 1 (i) (.fn q))]) 3 [true, false]) := eqn (by kernel_rfl) (ai (ai trivial c0) c1)
theorem fsL (B : Nat) (hB : B ≤ 3) (n m i : Nat) (k : Int) (a b x y : Nat → Nat) (q : Nat → List AV) (x0 : ((decide ((↑i : Int) < (↑n : Int))) = true → ((i + 1) * 16 ≤ 140737488355328))) (x1 : ((decide ((↑i : Int) < (↑n : Int))) = true → (i + 1 ≤ 9223372036854775807))) (x2 : ((decide ((↑i : Int) < (↑n : Int))) = true → ((↑i : Int) + 1 ≤ (9223372036854775807 : Int)))) : GoesB Try.prog (nav [1,1,1,0,1,0,0] (bodyOf Try.f31)) Try.f31.ntmps B 3 5 (frL [(0, slcV 0 n), (1, slcV 1 n), (6, iT 0), (7, sL 2 i), (8, iT i)]) (hpL [(0, cK false n a b), (1, cK false n x y), (2, .cells true 1 (i) (.fn q))]) fun e fr' H' => (cond (decide ((↑i : Int) < (↑n : Int))) (e = .normal ∧ fr' = frL [(0, .slc true false ⟨false, 0, 0, 0⟩ n), (1, .slc true false ⟨false, 1, 0, 0⟩ n), (6, iT 0), (7, sL 4 (i + 1)), (8, iT ((↑i : Int) + 1))] ∧ H' = hpL [(0, cK false n a b), (1, cK false n x y), (4, .cells true 1 (i + 1) (.fn fun j => bif decide (j < i) then q j else [.cpx true (fsub (a (0 + i)) (x (0 + i))) (fsub (b (0 + i)) (y (0 + i)))]))]) (e = .exit 0 ∧ fr' = frL [(0, .slc true false ⟨false, 0, 0, 0⟩ n), (1, .slc true false ⟨false, 1, 0, 0⟩ n), (6, iT 0), (7, sL 2 i), (8, iT (↑i : Int))] ∧ H' = hpL [(0, cK false n a b), (1, cK false n x y), (2, .cells true 1 i (Cont.fn q))])) := cD (fun q0 t0 => rcR (fsL_r0 n i a b x y q rfl t0 (by omega) (by omega) (by omega) (by omega) (by omega) (x0 t0) (x1 t0) (by omega) (x2 t0)) hB) (fun q0 t0 => rcR (fsL_r1 n i a b x y q rfl t0) hB)
theorem fsZ_r0 (i : Nat) (q : Nat → List AV) : PieceN 3 (Ex.ret) [(4, sL 2 i), (5, iT 0)] [(2, .cells true 1 i (Cont.fn q))] (piececallR Try.f31 (nav [1,1,1,1] (bodyOf Try.f31)) (frL [(6, iT 0), (7, sL 2 i)]) (hpL [(2, .cells true 1 (i) (.fn q))]) 3 []) := eqn (by kernel_rfl) trivial
theorem fsZ (B : Nat) (hB : B ≤ 3) (n m i : Nat) (k : Int) (a b x y : Nat → Nat) (q : Nat → List AV) : GoesB Try.prog (nav [1,1,1,1] (bodyOf Try.f31)) Try.f31.ntmps B 3 3 (frL [(6, iT 0), (7, sL 2 i)]) (hpL [(2, .cells true 1 (i) (.fn q))]) fun e fr' H' => (e = .ret ∧ fr' = frL [(4, sL 2 i), (5, iT 0)] ∧ H' = hpL [(2, .cells true 1 i (Cont.fn q))]) := rcR (fsZ_r0 i q) hB
theorem fsF_r0 (n m : Nat) (k : Int) (a b x y : Nat → Nat) : PieceN 2 (Ex.normal) [(0, .slc true false ⟨false, 0, 0, 0⟩ n), (1, .slc true false ⟨false, 1, 0, 0⟩ m), (6, iT k), (7, .nils), (8, .int false .i64 0)] [(0, cK false n a b), (1, cK false m x y)] (piececallR Try.f31 (nav [1,1,1,0,0] (bodyOf Try.f31)) (frL [(0, slcV 0 n), (1, slcV 1 m), (6, iT k), (7, .nils)]) (hpL [(0, cK false n a b), (1, cK false m x y)]) 2 []) := eqn (by kernel_rfl) trivial
theorem fsF (B : Nat) (hB : B ≤ 2) (n m i : Nat) (k : Int) (a b x y : Nat → Nat) (q : Nat → List AV) : GoesB Try.prog (nav [1,1,1,0,0] (bodyOf Try.f31)) Try.f31.ntmps B 2 2 (frL [(0, slcV 0 n), (1, slcV 1 m), (6, iT k), (7, .nils)]) (hpL [(0, cK false n a b), (1, cK false m x y)]) fun e fr' H' => (e = .normal ∧ fr' = frL [(0, .slc true false ⟨false, 0, 0, 0⟩ n), (1, .slc true false ⟨false, 1, 0, 0⟩ m), (6, iT k), (7, .nils), (8, .int false .i64 0)] ∧ H' = hpL [(0, cK false n a b), (1, cK false m x y)]) := rcR (fsF_r0 n m k a b x y) hB
theorem fsM_r0 (n m : Nat) (k : Int) (a b x y : Nat → Nat) (c0 : decide (k = (0 : Int)) = true) (c1 : decide (0 < (↑n : Int)) = true) (c2 : (0 : Int) ≤ 0) (c3 : 0 < (↑n : Int)) (c4 : 0 < n) (c5 : 0 < (↑m : Int)) (c6 : 0 < m) (c7 : (-9223372036854775808 : Int) ≤ 1) (c8 : (1 : Int) ≤ 9223372036854775807) : PieceN 4 (Ex.normal) [(6, iT k), (7, .slc false true ⟨false, 3, 0, 0⟩ 1)] [] (piececallR Try.f31 (nav [1,1,1,0,1,0,0] (bodyOf Try.f31)) (frL [(0, slcV 0 n), (1, slcV 1 m), (6, iT k), (7, .nils), (8, iT 0)]) (hpL [(0, cK false n a b), (1, cK false m x y)]) 2 [true, true]) := eqn (by kernel_rfl) (ai (ai (ai (ai (ai (ai (ai trivial c0) c1) (ai c2 c3)) c4) (ai c2 c5)) c6) (ai c7 c8))
theorem fsM_r1 (n m : Nat) (k : Int) (a b x y : Nat → Nat) (c0 : decide (k = (0 : Int)) = true) (c1 : decide (0 < (↑n : Int)) = false) : PieceN 4 (Ex.exit 0) [(6, iT k), (7, .nils)] [] (piececallR Try.f31 (nav [1,1,1,0,1,0,0] (bodyOf Try.f31)) (frL [(0, slcV 0 n), (1, slcV 1 m), (6, iT k), (7, .nils), (8, iT 0)]) (hpL [(0, cK false n a b), (1, cK false m x y)]) 2 [true, false]) := eqn (by kernel_rfl) (ai (ai trivial c0) c1)
theorem fsM_r2 (n m : Nat) (k : Int) (a b x y : Nat → Nat) (c0 : decide (k = (0 : Int)) = false) : PieceN 4 (Ex.exit 0) [(6, iT k), (7, .nils)] [] (piececallR Try.f31 (nav [1,1,1,0,1,0,0] (bodyOf Try.f31)) (frL [(0, slcV 0 n), (1, slcV 1 m), (6, iT k), (7, .nils), (8, iT 0)]) (hpL [(0, cK false n a b), (1, cK false m x y)]) 2 [false]) := eqn (by kernel_rfl) (ai trivial c0)
theorem fsM (B : Nat) (hB : B ≤ 2) (n m i : Nat) (k : Int) (a b x y : Nat → Nat) (q : Nat → List AV) (x0 : ((decide (k = (0 : Int))) = true → ((decide (0 < (↑n : Int))) = true → (0 < (↑m : Int))))) (x1 : ((decide (k = (0 : Int))) = true → ((decide (0 < (↑n : Int))) = true → (0 < m)))) : GoesB Try.prog (nav [1,1,1,0,1,0,0] (bodyOf Try.f31)) Try.f31.ntmps B 2 4 (frL [(0, slcV 0 n), (1, slcV 1 m), (6, iT k), (7, .nils), (8, iT 0)]) (hpL [(0, cK false n a b), (1, cK false m x y)]) fun e fr' H' => (cond (decide (k = (0 : Int))) (cond (decide (0 < (↑n : Int))) (e = .normal ∧ fr' = frL [(6, iT k), (7, .slc false true ⟨false, 3, 0, 0⟩ 1)] ∧ H' = hpL []) (e = .exit 0 ∧ fr' = frL [(6, iT k), (7, .nils)] ∧ H' = hpL [])) (e = .exit 0 ∧ fr' = frL [(6, iT k), (7, .nils)] ∧ H' = hpL [])) := cD (fun q0 t0 => cD (fun q1 t1 => rcR (fsM_r0 n m k a b x y t0 t1 (by omega) (by omega) (by omega) (x0 t0 t1) (x1 t0 t1) (by omega) (by omega)) hB) (fun q1 t1 => rcR (fsM_r1 n m k a b x y t0 t1) hB)) (fun q0 t0 => rcR (fsM_r2 n m k a b x y t0) hB)
theorem fsY_r0 (k : Int) : PieceN 2 (Ex.ret) [(4, .nils), (5, iT k)] [] (piececallR Try.f31 (nav [1,1,1,1] (bodyOf Try.f31)) (frL [(6, iT k), (7, .nils)]) (hpL []) 2 []) := eqn (by kernel_rfl) trivial
theorem fsY (B : Nat) (hB : B ≤ 2) (n m i : Nat) (k : Int) (a b x y : Nat → Nat) (q : Nat → List AV) : GoesB Try.prog (nav [1,1,1,1] (bodyOf Try.f31)) Try.f31.ntmps B 2 2 (frL [(6, iT k), (7, .nils)]) (hpL []) fun e fr' H' => (e = .ret ∧ fr' = frL [(4, .nils), (5, iT k)] ∧ H' = hpL []) := rcR (fsY_r0 k) hB
theorem fa_is : (bodyOf Try.f30) = .seq (nav [0] (bodyOf Try.f30)) (.seq (nav [1,0] (bodyOf Try.f30)) (.seq (nav [1,1,0] (bodyOf Try.f30)) (.seq (.seq (nav [1,1,1,0,0] (bodyOf Try.f30)) (.block 0 (.loop (nav [1,1,1,0,1,0,0] (bodyOf Try.f30))))) (nav [1,1,1,1] (bodyOf Try.f30))))) := by kernel_rfl
theorem fa_goes (n m : Nat) (a b x y : Nat → Nat) (hn : lenOk n) (hm : lenOk m) (hw : CW n a b) (hw' : CW m x y) :
  GoesB Try.prog (bodyOf Try.f30) Try.f30.ntmps 2 2 3 (frameOf [slcV 0 n, slcV 1 m] 0 .e) (hpL [(0, cK false n a b), (1, cK false m x y)]) fun e fr' H' => e = .ret ∧ ((vmay n m ≠ 0 ∧ fr'.get 4 = some .nils ∧ fr'.get 5 = some (iT (vmay n m))) ∨ (vmay n m = 0 ∧ fr' = frL [(4, sL 2 n), (5, iT 0)] ∧ H' = hpL [(2, .cells true 1 (n) (.fn fun j => [.cpx true (fadd (a j) (x j)) (fadd (b j) (y j))]))])) := by
 rw [fa_is]
 refine GoesB.seq (K1 := 2) (by omega) ((faA 2 (by omega) n m 0 0 a b x y (fun _ => []) ).mono fun e fr' H' ⟨e1, e2, e3⟩ => ?_)
 subst e1 e2 e3
 refine GoesB.seq (K1 := 2) (by omega) ((faB 2 (by omega) n m 0 0 a b x y (fun _ => []) (by exact hn) (fun j hj => by simpa only [Nat.zero_add] using cw_row hw j hj) (fun j hj u hu => low_c hu) (by exact hm) (fun j hj => by simpa only [Nat.zero_add] using cw_row hw' j hj) (fun j hj u hu => low_c hu)).mono fun e fr' H' ⟨e1, e2, e3⟩ => ?_)
 subst e1 e2 e3
 refine GoesB.seq (K1 := 2) (by omega) ((faC 2 (by omega) n m 0 (vmay n m) a b x y (fun _ => []) ).mono fun e fr' H' ⟨e1, e2, e3⟩ => ?_)
 subst e1 e2 e3
 by_cases he : vmay n m = 0
 case neg =>
  refine GoesB.seq (K1 := 2) (by omega) (GoesB.seq (K1 := 2) (by omega) ((faF 2 (by omega) n m 0 (vmay n m) a b x y (fun _ => [])).mono fun e fr' H' ⟨e1, e2, e3⟩ => ?_))
  subst e1 e2 e3
  refine GoesB.weakL (fl := [(0, slcV 0 n), (1, slcV 1 m), (6, iT (vmay n m)), (7, .nils), (8, iT 0)]) (bl := [(0, cK false n a b), (1, cK false m x y)]) ⟨re rfl, re rfl, re rfl, re rfl, ri rfl, trivial⟩ ⟨hs rfl, hs rfl, trivial⟩ ?_
  refine GoesB.block ((GoesB.loop (fun k fr H => fr = frL [(0, slcV 0 n), (1, slcV 1 m), (6, iT (vmay n m)), (7, .nils), (8, iT 0)] ∧ H = hpL [(0, cK false n a b), (1, cK false m x y)]) (Post := fun e fr H => e = .exit 0 ∧ fr = frL [(6, iT (vmay n m)), (7, .nils)] ∧ H = hpL []) ?_ 0 _ _ ⟨rfl, rfl⟩).mono fun e fr' H' ⟨e1, e2, e3⟩ => ?_)
  ·rintro k fr H ⟨rfl, rfl⟩
   refine ((faM 2 (by omega) n m 0 (vmay n m) a b x y (fun _ => []) (fun t => absurd (of_decide_eq_true t) he) (fun t => absurd (of_decide_eq_true t) he)).renL fun e fr' H' h => ?_)
   rw [decide_eq_false he, cond_false] at h
   obtain ⟨rfl, rfl, rfl⟩ := h
   exact ⟨id, [(6, iT (vmay n m)), (7, .nils)], [], fun g hg => rfl, ⟨⟨_, rfl, AV.ge.refl _, rfl⟩, ⟨_, rfl, AV.ge.refl _, rfl⟩, trivial⟩, trivial, fun i j _ _ h => h, rfl, rfl, rfl⟩
  subst e1 e2 e3
  simp only [if_true]
  refine ((faY 2 (by omega) n m 0 (vmay n m) a b x y (fun _ => [])).up (by omega)).mono fun e fr' H' ⟨e1, e2, e3⟩ => ?_
  subst e1 e2 e3
  exact ⟨rfl, .inl ⟨he, rfl, rfl⟩⟩
 obtain ⟨rfl, h64⟩ := vmay_eq he
 rw [he]
 refine GoesB.phantom 7 1 (fun j => [.cpx true (fadd (a j) (x j)) (fadd (b j) (y j))]) rfl (by omega) (by omega) ?_
 refine GoesB.weakL (fl := [(0, slcV 0 n), (1, slcV 1 n), (6, iT 0), (7, sL 2 0)]) (bl := [(0, cK false n a b), (1, cK false n x y), (2, .cells true 1 (0) (.fn fun j => [.cpx true (fadd (a j) (x j)) (fadd (b j) (y j))]))]) ⟨re rfl, re rfl, re rfl, re rfl, trivial⟩ ⟨hs rfl, hs rfl, hs rfl, trivial⟩ ?_
 refine GoesB.seq (K1 := 3) (by omega) (GoesB.seq (K1 := 3) (by omega) ((faD 2 (by omega) n n 0 0 a b x y (fun j => [.cpx true (fadd (a j) (x j)) (fadd (b j) (y j))])).mono fun e fr' H' ⟨e1, e2, e3⟩ => ?_))
 subst e1 e2 e3
 refine GoesB.weakL (fl := [(0, slcV 0 n), (1, slcV 1 n), (6, iT 0), (7, sL 2 0), (8, iT ((0 : Nat) : Int))]) (bl := [(0, cK false n a b), (1, cK false n x y), (2, .cells true 1 (0) (.fn fun j => [.cpx true (fadd (a j) (x j)) (fadd (b j) (y j))]))]) ⟨re rfl, re rfl, re rfl, re rfl, ri rfl, trivial⟩ ⟨hs rfl, hs rfl, hs rfl, trivial⟩ ?_
 refine (GoesB.count n (fun i => [(0, slcV 0 n), (1, slcV 1 n), (6, iT 0), (7, sL 2 i), (8, iT ((i : Nat) : Int))]) (fun i => [(0, cK false n a b), (1, cK false n x y), (2, .cells true 1 (i) (.fn fun j => [.cpx true (fadd (a j) (x j)) (fadd (b j) (y j))]))]) [(6, iT 0), (7, sL 2 n)] [(2, .cells true 1 (n) (.fn fun j => [.cpx true (fadd (a j) (x j)) (fadd (b j) (y j))]))] (fun _ => True) (fun _ _ => False) trivial (fun i hi _ => ?_)).mono fun e fr' H' h => ?_
 ·refine (faL 2 (by omega) n n i 0 a b x y (fun j => [.cpx true (fadd (a j) (x j)) (fadd (b j) (y j))]) (fun t => by omega) (fun t => by omega) (fun t => by omega)).renL fun e fr' H' h => ?_
  refine cond_elim h (fun t h => ?_) (fun t h => ?_)
  ·have hlt : i < n := by have := of_decide_eq_true t; omega
   obtain ⟨rfl, rfl, rfl⟩ := h
   exact ⟨fun g => if g = 2 then 4 else g, [(0, slcV 0 n), (1, slcV 1 n), (6, iT 0), (7, sL 2 (i + 1)), (8, iT ((i + 1 : Nat) : Int))], [(0, cK false n a b), (1, cK false n x y), (2, .cells true 1 (i + 1) (.fn fun j => [.cpx true (fadd (a j) (x j)) (fadd (b j) (y j))]))], fun g hg => if_neg (by omega), ⟨⟨_, rfl, AV.ge.refl _, rfl⟩, ⟨_, rfl, AV.ge.refl _, rfl⟩, ⟨_, rfl, AV.ge.refl _, rfl⟩, ⟨_, rfl, AV.ge.refl _, rfl⟩, ⟨_, rfl, AV.ge.int _ _ _ _, rfl⟩, trivial⟩, ⟨⟨_, rfl, SameC.refl _, fun j hj u hu => low_c hu, by omega⟩, ⟨_, rfl, SameC.refl _, fun j hj u hu => low_c hu, by omega⟩, ⟨_, rfl, ⟨rfl, rfl, rfl, fun j hj => by rw [Nat.zero_add]; exact row_app (fun j => [.cpx true (fadd (a j) (x j)) (fadd (b j) (y j))]) _ i j hj⟩, fun j hj u hu => low_c hu, by omega⟩, trivial⟩, sg4_inj, .inl ⟨rfl, hlt, trivial, rfl, rfl⟩⟩
  ·obtain rfl : i = n := by have := of_decide_eq_false t; omega
   obtain ⟨rfl, rfl, rfl⟩ := h
   exact ⟨id, [(6, iT 0), (7, sL 2 i)], [(2, .cells true 1 (i) (.fn fun j => [.cpx true (fadd (a j) (x j)) (fadd (b j) (y j))]))], fun g hg => rfl, ⟨⟨_, rfl, AV.ge.refl _, rfl⟩, ⟨_, rfl, AV.ge.refl _, rfl⟩, trivial⟩, ⟨⟨_, rfl, SameC.refl _, fun j hj u hu => low_c hu, by omega⟩, trivial⟩, fun i j _ _ h => h, .inr (.inl ⟨rfl, trivial, rfl, rfl⟩)⟩
 rcases h with ⟨rfl, _, rfl, rfl⟩ | ⟨_, h⟩
 case inr => exact h.elim
 refine (faZ 2 (by omega) n n n 0 a b x y (fun j => [.cpx true (fadd (a j) (x j)) (fadd (b j) (y j))])).mono fun e fr' H' ⟨e1, e2, e3⟩ => ?_
 subst e1 e2 e3
 exact ⟨rfl, .inr ⟨rfl, rfl, rfl⟩⟩
theorem fs_is : (bodyOf Try.f31) = .seq (nav [0] (bodyOf Try.f31)) (.seq (nav [1,0] (bodyOf Try.f31)) (.seq (nav [1,1,0] (bodyOf Try.f31)) (.seq (.seq (nav [1,1,1,0,0] (bodyOf Try.f31)) (.block 0 (.loop (nav [1,1,1,0,1,0,0] (bodyOf Try.f31))))) (nav [1,1,1,1] (bodyOf Try.f31))))) := by kernel_rfl
theorem fs_goes (n m : Nat) (a b x y : Nat → Nat) (hn : lenOk n) (hm : lenOk m) (hw : CW n a b) (hw' : CW m x y) :
  GoesB Try.prog (bodyOf Try.f31) Try.f31.ntmps 2 2 3 (frameOf [slcV 0 n, slcV 1 m] 0 .e) (hpL [(0, cK false n a b), (1, cK false m x y)]) fun e fr' H' => e = .ret ∧ ((vmay n m ≠ 0 ∧ fr'.get 4 = some .nils ∧ fr'.get 5 = some (iT (vmay n m))) ∨ (vmay n m = 0 ∧ fr' = frL [(4, sL 2 n), (5, iT 0)] ∧ H' = hpL [(2, .cells true 1 (n) (.fn fun j => [.cpx true (fsub (a j) (x j)) (fsub (b j) (y j))]))])) := by
 rw [fs_is]
 refine GoesB.seq (K1 := 2) (by omega) ((fsA 2 (by omega) n m 0 0 a b x y (fun _ => []) ).mono fun e fr' H' ⟨e1, e2, e3⟩ => ?_)
 subst e1 e2 e3
 refine GoesB.seq (K1 := 2) (by omega) ((fsB 2 (by omega) n m 0 0 a b x y (fun _ => []) (by exact hn) (fun j hj => by simpa only [Nat.zero_add] using cw_row hw j hj) (fun j hj u hu => low_c hu) (by exact hm) (fun j hj => by simpa only [Nat.zero_add] using cw_row hw' j hj) (fun j hj u hu => low_c hu)).mono fun e fr' H' ⟨e1, e2, e3⟩ => ?_)
 subst e1 e2 e3
 refine GoesB.seq (K1 := 2) (by omega) ((fsC 2 (by omega) n m 0 (vmay n m) a b x y (fun _ => []) ).mono fun e fr' H' ⟨e1, e2, e3⟩ => ?_)
 subst e1 e2 e3
 by_cases he : vmay n m = 0
 case neg =>
  refine GoesB.seq (K1 := 2) (by omega) (GoesB.seq (K1 := 2) (by omega) ((fsF 2 (by omega) n m 0 (vmay n m) a b x y (fun _ => [])).mono fun e fr' H' ⟨e1, e2, e3⟩ => ?_))
  subst e1 e2 e3
  refine GoesB.weakL (fl := [(0, slcV 0 n), (1, slcV 1 m), (6, iT (vmay n m)), (7, .nils), (8, iT 0)]) (bl := [(0, cK false n a b), (1, cK false m x y)]) ⟨re rfl, re rfl, re rfl, re rfl, ri rfl, trivial⟩ ⟨hs rfl, hs rfl, trivial⟩ ?_
  refine GoesB.block ((GoesB.loop (fun k fr H => fr = frL [(0, slcV 0 n), (1, slcV 1 m), (6, iT (vmay n m)), (7, .nils), (8, iT 0)] ∧ H = hpL [(0, cK false n a b), (1, cK false m x y)]) (Post := fun e fr H => e = .exit 0 ∧ fr = frL [(6, iT (vmay n m)), (7, .nils)] ∧ H = hpL []) ?_ 0 _ _ ⟨rfl, rfl⟩).mono fun e fr' H' ⟨e1, e2, e3⟩ => ?_)
  ·rintro k fr H ⟨rfl, rfl⟩
   refine ((fsM 2 (by omega) n m 0 (vmay n m) a b x y (fun _ => []) (fun t => absurd (of_decide_eq_true t) he) (fun t => absurd (of_decide_eq_true t) he)).renL fun e fr' H' h => ?_)
   rw [decide_eq_false he, cond_false] at h
   obtain ⟨rfl, rfl, rfl⟩ := h
   exact ⟨id, [(6, iT (vmay n m)), (7, .nils)], [], fun g hg => rfl, ⟨⟨_, rfl, AV.ge.refl _, rfl⟩, ⟨_, rfl, AV.ge.refl _, rfl⟩, trivial⟩, trivial, fun i j _ _ h => h, rfl, rfl, rfl⟩
  subst e1 e2 e3
  simp only [if_true]
  refine ((fsY 2 (by omega) n m 0 (vmay n m) a b x y (fun _ => [])).up (by omega)).mono fun e fr' H' ⟨e1, e2, e3⟩ => ?_
  subst e1 e2 e3
  exact ⟨rfl, .inl ⟨he, rfl, rfl⟩⟩
 obtain ⟨rfl, h64⟩ := vmay_eq he
 rw [he]
 refine GoesB.phantom 7 1 (fun j => [.cpx true (fsub (a j) (x j)) (fsub (b j) (y j))]) rfl (by omega) (by omega) ?_
 refine GoesB.weakL (fl := [(0, slcV 0 n), (1, slcV 1 n), (6, iT 0), (7, sL 2 0)]) (bl := [(0, cK false n a b), (1, cK false n x y), (2, .cells true 1 (0) (.fn fun j => [.cpx true (fsub (a j) (x j)) (fsub (b j) (y j))]))]) ⟨re rfl, re rfl, re rfl, re rfl, trivial⟩ ⟨hs rfl, hs rfl, hs rfl, trivial⟩ ?_
 refine GoesB.seq (K1 := 3) (by omega) (GoesB.seq (K1 := 3) (by omega) ((fsD 2 (by omega) n n 0 0 a b x y (fun j => [.cpx true (fsub (a j) (x j)) (fsub (b j) (y j))])).mono fun e fr' H' ⟨e1, e2, e3⟩ => ?_))
 subst e1 e2 e3
 refine GoesB.weakL (fl := [(0, slcV 0 n), (1, slcV 1 n), (6, iT 0), (7, sL 2 0), (8, iT ((0 : Nat) : Int))]) (bl := [(0, cK false n a b), (1, cK false n x y), (2, .cells true 1 (0) (.fn fun j => [.cpx true (fsub (a j) (x j)) (fsub (b j) (y j))]))]) ⟨re rfl, re rfl, re rfl, re rfl, ri rfl, trivial⟩ ⟨hs rfl, hs rfl, hs rfl, trivial⟩ ?_
 refine (GoesB.count n (fun i => [(0, slcV 0 n), (1, slcV 1 n), (6, iT 0), (7, sL 2 i), (8, iT ((i : Nat) : Int))]) (fun i => [(0, cK false n a b), (1, cK false n x y), (2, .cells true 1 (i) (.fn fun j => [.cpx true (fsub (a j) (x j)) (fsub (b j) (y j))]))]) [(6, iT 0), (7, sL 2 n)] [(2, .cells true 1 (n) (.fn fun j => [.cpx true (fsub (a j) (x j)) (fsub (b j) (y j))]))] (fun _ => True) (fun _ _ => False) trivial (fun i hi _ => ?_)).mono fun e fr' H' h => ?_
 ·refine (fsL 2 (by omega) n n i 0 a b x y (fun j => [.cpx true (fsub (a j) (x j)) (fsub (b j) (y j))]) (fun t => by omega) (fun t => by omega) (fun t => by omega)).renL fun e fr' H' h => ?_
  refine cond_elim h (fun t h => ?_) (fun t h => ?_)
  ·have hlt : i < n := by have := of_decide_eq_true t; omega
   obtain ⟨rfl, rfl, rfl⟩ := h
   exact ⟨fun g => if g = 2 then 4 else g, [(0, slcV 0 n), (1, slcV 1 n), (6, iT 0), (7, sL 2 (i + 1)), (8, iT ((i + 1 : Nat) : Int))], [(0, cK false n a b), (1, cK false n x y), (2, .cells true 1 (i + 1) (.fn fun j => [.cpx true (fsub (a j) (x j)) (fsub (b j) (y j))]))], fun g hg => if_neg (by omega), ⟨⟨_, rfl, AV.ge.refl _, rfl⟩, ⟨_, rfl, AV.ge.refl _, rfl⟩, ⟨_, rfl, AV.ge.refl _, rfl⟩, ⟨_, rfl, AV.ge.refl _, rfl⟩, ⟨_, rfl, AV.ge.int _ _ _ _, rfl⟩, trivial⟩, ⟨⟨_, rfl, SameC.refl _, fun j hj u hu => low_c hu, by omega⟩, ⟨_, rfl, SameC.refl _, fun j hj u hu => low_c hu, by omega⟩, ⟨_, rfl, ⟨rfl, rfl, rfl, fun j hj => by rw [Nat.zero_add]; exact row_app (fun j => [.cpx true (fsub (a j) (x j)) (fsub (b j) (y j))]) _ i j hj⟩, fun j hj u hu => low_c hu, by omega⟩, trivial⟩, sg4_inj, .inl ⟨rfl, hlt, trivial, rfl, rfl⟩⟩
  ·obtain rfl : i = n := by have := of_decide_eq_false t; omega
   obtain ⟨rfl, rfl, rfl⟩ := h
   exact ⟨id, [(6, iT 0), (7, sL 2 i)], [(2, .cells true 1 (i) (.fn fun j => [.cpx true (fsub (a j) (x j)) (fsub (b j) (y j))]))], fun g hg => rfl, ⟨⟨_, rfl, AV.ge.refl _, rfl⟩, ⟨_, rfl, AV.ge.refl _, rfl⟩, trivial⟩, ⟨⟨_, rfl, SameC.refl _, fun j hj u hu => low_c hu, by omega⟩, trivial⟩, fun i j _ _ h => h, .inr (.inl ⟨rfl, trivial, rfl, rfl⟩)⟩
 rcases h with ⟨rfl, _, rfl, rfl⟩ | ⟨_, h⟩
 case inr => exact h.elim
 refine (fsZ 2 (by omega) n n n 0 a b x y (fun j => [.cpx true (fsub (a j) (x j)) (fsub (b j) (y j))])).mono fun e fr' H' ⟨e1, e2, e3⟩ => ?_
 subst e1 e2 e3
 exact ⟨rfl, .inr ⟨rfl, rfl, rfl⟩⟩


noncomputable def raddS : List AV → M AV
 | [x, y] => c2 x y fun n a b m a' b' => (M.dec (decide ((fun n m => vmay n m) n m = 0))).andThen fun d => bif d then (M.newB (.cells true 1 ((fun n m => n) n m) (.fn (fun j => [.cpx true (fadd (a j) (a' j)) (fadd (b j) (b' j))])))).andThen fun N => M.ret ((fun n m N => .tup [.slc true true ⟨false, N, 0, 0⟩ n, iT 0]) n m N) else M.ret (.tup [.nils, iT (vmay n m)])
 | _ => M.no
theorem raddS_ok : ∀ args v g g', raddS args g = .done v g' → CallIs Try.prog 30 args v g g' := by
 intro args v g g' h
 unfold raddS at h
 split at h
 ·exact c2_err Try.func30 (by kernel_rfl) (by kernel_rfl) (pl := []) (pr := []) (fun u hu => by simp at hu) (K' := 3) (nm := 2) (len := fun n m => n) (val := fun n m N => .tup [.slc true true ⟨false, N, 0, 0⟩ n, iT 0]) (rows := fun n a b m a' b' => fun j => [.cpx true (fadd (a j) (a' j)) (fadd (b j) (b' j))]) (fun n m => Named.tup n 0) (fun n a b m a' b' j hj u hu => low_c hu) (E := fun n m => vmay n m) (res := fun n a b m a' b' => .tup [.nils, iT (vmay n m)]) (fun n a b m a' b' => ⟨fun N => by simp [AV.low, lows], fun S => by simp [AV.inS, insS], fun σ => rfl⟩) (fun n a b m a' b' he hn hm hw hw' => ((fa_goes n m a b a' b' hn hm hw hw').mono fun e fr' H' hp => by
   obtain ⟨rfl, ⟨_, e2, e3⟩ | ⟨e1, _⟩⟩ := hp
   ·exact ⟨.inl rfl, _, _, res2 (t := 4) (t' := 5) (by kernel_rfl) e2 e3, trivial, AV.ge.refl _, news0⟩
   ·exact (he e1).elim)) (fun n a b m a' b' he hn hm hw hw' => ((fa_goes n m a b a' b' hn hm hw hw')).mono fun e fr' H' hp => by
   obtain ⟨rfl, ⟨e1, _⟩ | ⟨_, rfl, rfl⟩⟩ := hp
   ·exact (e1 he).elim
   ·exact ⟨.inl rfl, _, _, res2 (t := 4) (t' := 5) (by kernel_rfl) rfl rfl, trivial, AV.ge.tup2 (AV.ge.refl _) (AV.ge.int _ _ _ _), news1 rfl (SameC.refl _) rfl (fun j hj u hu => low_c hu)⟩) _ _ _ _ _ h
 ·exact (no_done h).elim
theorem raddS_tch : ∀ args, Tch (raddS args) := by
 intro args
 unfold raddS
 split
 ·exact Tch.c2 _ _ fun _ _ _ _ _ _ => (Tch.dec _).andThen fun d => Tch.cond ((Tch.newB _).andThen fun _ => Tch.ret _) (Tch.ret _)
 ·exact Tch.no
noncomputable def rsubS : List AV → M AV
 | [x, y] => c2 x y fun n a b m a' b' => (M.dec (decide ((fun n m => vmay n m) n m = 0))).andThen fun d => bif d then (M.newB (.cells true 1 ((fun n m => n) n m) (.fn (fun j => [.cpx true (fsub (a j) (a' j)) (fsub (b j) (b' j))])))).andThen fun N => M.ret ((fun n m N => .tup [.slc true true ⟨false, N, 0, 0⟩ n, iT 0]) n m N) else M.ret (.tup [.nils, iT (vmay n m)])
 | _ => M.no
theorem rsubS_ok : ∀ args v g g', rsubS args g = .done v g' → CallIs Try.prog 31 args v g g' := by
 intro args v g g' h
 unfold rsubS at h
 split at h
 ·exact c2_err Try.func31 (by kernel_rfl) (by kernel_rfl) (pl := []) (pr := []) (fun u hu => by simp at hu) (K' := 3) (nm := 2) (len := fun n m => n) (val := fun n m N => .tup [.slc true true ⟨false, N, 0, 0⟩ n, iT 0]) (rows := fun n a b m a' b' => fun j => [.cpx true (fsub (a j) (a' j)) (fsub (b j) (b' j))]) (fun n m => Named.tup n 0) (fun n a b m a' b' j hj u hu => low_c hu) (E := fun n m => vmay n m) (res := fun n a b m a' b' => .tup [.nils, iT (vmay n m)]) (fun n a b m a' b' => ⟨fun N => by simp [AV.low, lows], fun S => by simp [AV.inS, insS], fun σ => rfl⟩) (fun n a b m a' b' he hn hm hw hw' => ((fs_goes n m a b a' b' hn hm hw hw').mono fun e fr' H' hp => by
   obtain ⟨rfl, ⟨_, e2, e3⟩ | ⟨e1, _⟩⟩ := hp
   ·exact ⟨.inl rfl, _, _, res2 (t := 4) (t' := 5) (by kernel_rfl) e2 e3, trivial, AV.ge.refl _, news0⟩
   ·exact (he e1).elim)) (fun n a b m a' b' he hn hm hw hw' => ((fs_goes n m a b a' b' hn hm hw hw')).mono fun e fr' H' hp => by
   obtain ⟨rfl, ⟨e1, _⟩ | ⟨_, rfl, rfl⟩⟩ := hp
   ·exact (e1 he).elim
   ·exact ⟨.inl rfl, _, _, res2 (t := 4) (t' := 5) (by kernel_rfl) rfl rfl, trivial, AV.ge.tup2 (AV.ge.refl _) (AV.ge.int _ _ _ _), news1 rfl (SameC.refl _) rfl (fun j hj u hu => low_c hu)⟩) _ _ _ _ _ h
 ·exact (no_done h).elim
theorem rsubS_tch : ∀ args, Tch (rsubS args) := by
 intro args
 unfold rsubS
 split
 ·exact Tch.c2 _ _ fun _ _ _ _ _ _ => (Tch.dec _).andThen fun d => Tch.cond ((Tch.newB _).andThen fun _ => Tch.ret _) (Tch.ret _)
 ·exact Tch.no


theorem fcA_r0 (n : Nat) (a b : Nat → Nat) : PieceN 1 (Ex.normal) [(0, .slc true false ⟨false, 0, 0, 0⟩ n)] [(0, cK false n a b)] (piececallR Try.f39 (nav [0] (bodyOf Try.f39)) (frameOf [slcV 0 n] 0 .e) (hpL [(0, cK false n a b)]) 1 []) := eqn (by kernel_rfl) trivial
theorem fcA (B : Nat) (hB : B ≤ 1) (n i w : Nat) (a b : Nat → Nat) (q : Nat → List AV) : GoesB Try.prog (nav [0] (bodyOf Try.f39)) Try.f39.ntmps B 1 1 (frameOf [slcV 0 n] 0 .e) (hpL [(0, cK false n a b)]) fun e fr' H' => (e = .normal ∧ fr' = frL [(0, .slc true false ⟨false, 0, 0, 0⟩ n)] ∧ H' = hpL [(0, cK false n a b)]) := rcR (fcA_r0 n a b) hB
theorem fcB_r0 (n : Nat) (a b : Nat → Nat) : PieceN 1 (Ex.normal) [(0, .slc true false ⟨false, 0, 0, 0⟩ n), (3, .nils)] [(0, cK false n a b)] (piececallR Try.f39 (nav [1,0] (bodyOf Try.f39)) (frL [(0, slcV 0 n)]) (hpL [(0, cK false n a b)]) 1 []) := eqn (by kernel_rfl) trivial
theorem fcB (B : Nat) (hB : B ≤ 1) (n i w : Nat) (a b : Nat → Nat) (q : Nat → List AV) : GoesB Try.prog (nav [1,0] (bodyOf Try.f39)) Try.f39.ntmps B 1 1 (frL [(0, slcV 0 n)]) (hpL [(0, cK false n a b)]) fun e fr' H' => (e = .normal ∧ fr' = frL [(0, .slc true false ⟨false, 0, 0, 0⟩ n), (3, .nils)] ∧ H' = hpL [(0, cK false n a b)]) := rcR (fcB_r0 n a b) hB
theorem fcC_r0 (n i : Nat) (a b : Nat → Nat) (q : Nat → List AV) : PieceN 2 (Ex.normal) [(0, .slc true false ⟨false, 0, 0, 0⟩ n), (3, sL 1 i), (4, .int false .i64 0)] [(0, cK false n a b), (1, .cells true 1 i (Cont.fn q))] (piececallR Try.f39 (nav [1,1,0,0] (bodyOf Try.f39)) (frL [(0, slcV 0 n), (3, sL 1 i)]) (hpL [(0, cK false n a b), (1, .cells true 1 (i) (.fn q))]) 2 []) := eqn (by kernel_rfl) trivial
theorem fcC (B : Nat) (hB : B ≤ 2) (n i w : Nat) (a b : Nat → Nat) (q : Nat → List AV) : GoesB Try.prog (nav [1,1,0,0] (bodyOf Try.f39)) Try.f39.ntmps B 2 2 (frL [(0, slcV 0 n), (3, sL 1 i)]) (hpL [(0, cK false n a b), (1, .cells true 1 (i) (.fn q))]) fun e fr' H' => (e = .normal ∧ fr' = frL [(0, .slc true false ⟨false, 0, 0, 0⟩ n), (3, sL 1 i), (4, .int false .i64 0)] ∧ H' = hpL [(0, cK false n a b), (1, .cells true 1 i (Cont.fn q))]) := rcR (fcC_r0 n i a b q) hB
theorem fcL_r0 (n i : Nat) (a b : Nat → Nat) (q : Nat → List AV) (c0 : decide ((↑i : Int) < (↑n : Int)) = true) (c1 : 0 ≤ (↑i : Int)) (c2 : (↑i : Int) < (↑n : Int)) (c3 : 0 + i < n) (c4 : i ≤ i) (c5 : (i + 1) * 16 ≤ 140737488355328) (c6 : i + 1 ≤ 9223372036854775807) (c7 : -9223372036854775808 ≤ (↑i : Int) + 1) (c8 : (↑i : Int) + 1 ≤ (9223372036854775807 : Int)) : PieceN 4 (Ex.normal) [(0, .slc true false ⟨false, 0, 0, 0⟩ n), (3, sL 3 (i + 1)), (4, iT ((↑i : Int) + 1))] [(0, cK false n a b), (3, .cells true 1 (i + 1) (.fn fun j => bif decide (j < i) then q j else [.cpx true (a (0 + i)) (fneg (b (0 + i)))]))] (piececallR Try.f39 (nav [1,1,0,1,0,0] (bodyOf Try.f39)) (frL [(0, slcV 0 n), (3, sL 1 i), (4, iT i)]) (hpL [(0, cK false n a b), (1, .cells true 1 (i) (.fn q))]) 2 [true]) := eqn (by kernel_rfl) (ai (ai (ai (ai (ai trivial c0) (ai c1 c2)) c3) (ai c4 (ai c5 c6))) (ai c7 c8))
theorem fcL_r1 (n i : Nat) (a b : Nat → Nat) (q : Nat → List AV) (c0 : decide ((↑i : Int) < (↑n : Int)) = false) : PieceN 4 (Ex.exit 0) [(0, .slc true false ⟨false, 0, 0, 0⟩ n), (3, sL 1 i), (4, iT (↑i : Int))] [(0, cK false n a b), (1, .cells true 1 i (Cont.fn q))] (piececallR Try.f39 (nav [1,1,0,1,0,0] (bodyOf Try.f39)) (frL [(0, slcV 0 n), (3, sL 1 i), (4, iT i)]) (hpL [(0, cK false n a b), (1, .cells true 1 (i) (.fn q))]) 2 [false]) := eqn (by kernel_rfl) (ai trivial c0)
end Go.Proofs.Ytofmgnkdjfhldaa
